/- Contract of replay.Text. -/
import Derived.Test.YtlpkgheggbcidaaDoorRaEnv
import Derived.Outline
set_option linter.unusedVariables false
namespace Go.Proofs.YtlpkgheggbcidaaDoor
open Go.RowKit Go.Mem Go.Rp Go.Maps
theorem RowAt.below {α : Type} {e : TypeId} {size : Nat} {f : α → List Value} {w wr w2 : World} {v : Value} {l : List α} (h : RowAt e size f w wr v l) (hb : Below wr.heap.size wr w2) : RowAt e size f w w2 v l :=
  ⟨h.1.keep fun b hv => hb.block b (h.1.lt b hv), h.2.1, h.2.2.trans (hb.mono h.2.2.size)⟩
theorem RowAt.put {α : Type} {e : TypeId} {size : Nat} {f : α → List Value} {w wr wa w2 : World} {v v2 : Value} {l : List α} (h : RowAt e size f w wr v l) (ha : Below wr.heap.size wr wa) (x : α) (hs : Seg w2 e size v2 (l.length + 1) (cat f l ++ f x)) (hg : wa.grownBy w2 v.ownBlock) (hat : ∀ b, v2.ownBlock = some b → v.ownBlock = some b ∨ wa.heap.size ≤ b) : RowAt e size f w w2 v2 (l ++ [x]) := by
  have hsz := h.2.2.size
  have hb1 := h.2.2.trans (ha.mono hsz)
  refine ⟨by rw [cat_app, cat_one, List.length_append, List.length_singleton]; exact hs, fun b hb => ?_, hb1.grown hg hb1.size fun k hk => h.2.1 k hk⟩
  rcases hat b hb with h1 | h1
  · exact h.2.1 b h1
  · have := hb1.size
    omega
theorem rest_one {k a b : Int} (h : k ≠ 2) : partC ⟨k, a, b⟩ = letterC k :: Lib.decDigits a.toNat := by
  unfold partC restC
  rw [if_neg h, List.append_nil]
theorem rest_two (a b : Int) : partC ⟨2, a, b⟩ = 99 :: (Lib.decDigits a.toNat ++ 45 :: Lib.decDigits b.toNat) := rfl
set_option maxRecDepth 100000 in
set_option maxHeartbeats 8000000 in
theorem text_any (A : Option Addr) (n c : Nat) (l : List Ch) (w : World) (hv : Env w) (hr : Reads w Any 3 A n (cat chC l)) (hn : n = l.length) (h : ∀ x ∈ l, Okc x) (h50 : n ≤ 200) :
    Calls Tryd.prog 6 #[.slice A n c] w fun e w' => e = .returned (.tuple #[.string ⟨(textC l).toArray⟩, .int .i64 0]) ∧ Below w.heap.size w w' := by
  have HR := Lib.hid (And.intro hr (And.intro hn h))
  have HV := Lib.hid hv
  clear hr hn h hv
  go_enter Tryd.func6, Tryd.ntmps6
  go_wp2_with (fail)
  go_loopw [4, 10] (fun v i wr => ∃ k : Nat, k ≤ n ∧ i = .int .i64 k ∧ Hid (RowAt 9 1 stC w wr v ((l.take k).map partC))) (fun _ i _ => n - (intOf i).toNat)
  case atStart => exact ⟨0, Nat.zero_le _, rfl, Lib.hid (RowAt.nil w)⟩
  case round =>
    obtain ⟨k, hk, rfl, HP⟩ := hrel
    by_cases hlt : k < n
    · have hkl : k < l.length := by have := HR.out.2.1; omega
      have hrk := HR.out.1.keep (Same.any HP.out.2.2)
      obtain ⟨cb1, co, rfl, hcw, hcc3⟩ := cat_cell chC_len hrk hlt HR.out.2.1
      have q0 := hcc3 0 (by omega)
      have q1 := hcc3 1 (by omega)
      have q2 := hcc3 2 (by omega)
      have lq := lt_of_cell q0
      have hox := HR.out.2.2 _ (List.getElem_mem hkl)
      have NX := Lib.hid (show (l.take (k + 1)).map partC = (l.take k).map partC ++ [partC l[k]] by rw [List.take_succ_eq_append_getElem hkl, List.map_append]; rfl)
      generalize l[k] = x at q0 q1 q2 hox NX
      obtain ⟨xk, a, b⟩ := x
      obtain ⟨r0, r1, r2, r3, r4, r5⟩ := hox
      simp only [chC, List.getElem?_cons_succ, List.getElem?_cons_zero, Nat.add_zero] at q0 q1 q2 r0 r1 r2 r3 r4 r5
      have HL := Lib.hid (show ((l.take k).map partC).length = k by rw [List.length_map, List.length_take]; omega)
      obtain ⟨A3, c3, rfl⟩ := HP.out.form
      rw [HL.out] at HP ⊢
      have na : (decide (a < 0)) = false := decide_eq_false (by omega)
      have nb : (decide (b < 0)) = false := decide_eq_false (by omega)
      have CA := Lib.hid (fun V (hV : Below w.heap.size w V) => itoa_any a r1 r2 V (HV.out.below hV))
      have CB := Lib.hid (fun V (hV : Below w.heap.size w V) => itoa_any b r3 r4 V (HV.out.below hV))
      obtain ⟨DA, hDA⟩ : ∃ DA : ByteArray, DA = ⟨(Lib.decDigits a.toNat).toArray⟩ := ⟨_, rfl⟩
      obtain ⟨DB, hDB⟩ : ∃ DB : ByteArray, DB = ⟨(Lib.decDigits b.toNat).toArray⟩ := ⟨_, rfl⟩
      rw [← hDA] at CA
      rw [← hDB] at CB
      have sA : DA.size ≤ 4 := by rw [hDA, bsz]; exact Nat.le_trans (dlen r1 r2) (by omega)
      have sB : DB.size ≤ 4 := by rw [hDB, bsz]; exact Nat.le_trans (dlen r3 r4) (by omega)
      have k1 : (k : Int) < (n : Int) := by omega
      have k0 : (0 : Int) ≤ (k : Int) := by omega
      clear hcc3 hrk
      rcases r0 with rfl | rfl | rfl
      · obtain rfl : b = 0 := r5 (by decide)
        have HX := Lib.hid (show (ByteArray.mk #[103]) ++ DA = ⟨(partC ⟨1, a, 0⟩).toArray⟩ from by
          rw [rest_one (by decide), hDA]
          apply ByteArray.ext
          simp [letterC])
        clear CB
        have HR5 := Lib.hid (And.intro hDA hDB)
        clear hDA hDB r1 r2 r3 r4 r5
        obtain ⟨W, hW⟩ : ∃ W, W = wr.alloc (.cells #[.int .i64 1, .int .i64 a, .int .i64 0] 36) := ⟨_, rfl⟩
        obtain ⟨X, hX⟩ : ∃ X, X = wr.heap.size := ⟨_, rfl⟩
        have bW : Below wr.heap.size wr W := by rw [hW]; exact (Below.refl _ _).alloc (Nat.le_refl _) _
        have fX : Blk W X 36 [.int .i64 1, .int .i64 a, .int .i64 0] := by rw [hW, hX]; exact Blk.new wr _ _
        have HPW := Lib.hid (HP.out.below bW)
        have HFX := Lib.hid fX
        have HW := Lib.hid hW
        have HXe := Lib.hid hX
        clear hW hX bW
        go_upto_region 7 with (fail)
        rw [← HW.out, ← HXe.out]
        have x0 := fX.cell 0
        have x1 := fX.cell 1
        simp only [List.getElem?_cons_succ, List.getElem?_cons_zero] at x0 x1
        have lX := fX.lt
        clear fX q0 q1 q2 lq
        refine wp_region_g (S := fun V => V.cell? ⟨X, 0, none⟩ = some (.int .i64 1) ∧ V.cell? ⟨X, 1, none⟩ = some (.int .i64 a)) (m := 9) (by kernel_rfl) ?_
        have hS : (World.drew W).cell? ⟨X, 0, none⟩ = some (.int .i64 1) ∧ (World.drew W).cell? ⟨X, 1, none⟩ = some (.int .i64 a) := ⟨x0, x1⟩
        repeat (first | (refine wpAnyG_take (i := 0) (v := .pointer (some ⟨X, 0, none⟩)) rfl ?_ ?_ ?_ (fun _ _ _ h => h) (Or.inl ⟨by rfl, ?_⟩) hS ?_; (· decide +kernel); (· decide +kernel); (· decide +kernel); (· (intro w' hS'; obtain ⟨hS0, hS1⟩ := hS'; go_simp; try (first | rfl | decide +kernel)))) | (refine wpAnyG_take (i := 1) (v := .int .i64 1) rfl ?_ ?_ ?_ (fun _ _ _ h => h) (Or.inl ⟨by rfl, ?_⟩) hS ?_; (· decide +kernel); (· decide +kernel); (· decide +kernel); (· (intro w' hS'; obtain ⟨hS0, hS1⟩ := hS'; go_simp; try (first | rfl | decide +kernel)))) | (refine wpAnyG_take (i := 2) (v := .int .i64 0) rfl ?_ ?_ ?_ (fun _ _ _ h => h) (Or.inl ⟨by rfl, ?_⟩) hS ?_; (· decide +kernel); (· decide +kernel); (· decide +kernel); (· (intro w' hS'; obtain ⟨hS0, hS1⟩ := hS'; go_simp; try (first | rfl | decide +kernel)))) | (refine wpAnyG_take (i := 3) (v := .pointer (some ⟨X, 0, none⟩)) rfl ?_ ?_ ?_ (fun _ _ _ h => h) (Or.inl ⟨by rfl, ?_⟩) hS ?_; (· decide +kernel); (· decide +kernel); (· decide +kernel); (· (intro w' hS'; obtain ⟨hS0, hS1⟩ := hS'; go_simp; try (first | rfl | decide +kernel)))) | (refine wpAnyG_take (i := 4) (v := .int .i64 1) rfl ?_ ?_ ?_ (fun _ _ _ h => h) (Or.inl ⟨by rfl, ?_⟩) hS ?_; (· decide +kernel); (· decide +kernel); (· decide +kernel); (· (intro w' hS'; obtain ⟨hS0, hS1⟩ := hS'; go_simp; try (first | rfl | decide +kernel)))) | (refine wpAnyG_take (i := 5) (v := .string ⟨#[103]⟩) rfl ?_ ?_ ?_ (fun _ _ _ h => h) (Or.inl ⟨by rfl, ?_⟩) hS ?_; (· decide +kernel); (· decide +kernel); (· decide +kernel); (· (intro w' hS'; obtain ⟨hS0, hS1⟩ := hS'; go_simp; try (first | rfl | decide +kernel)))) | (refine wpAnyG_take (i := 6) (v := .pointer (some ⟨X, 1, none⟩)) rfl ?_ ?_ ?_ (fun _ _ _ h => h) (Or.inl ⟨by rfl, ?_⟩) hS ?_; (· decide +kernel); (· decide +kernel); (· decide +kernel); (· (intro w' hS'; obtain ⟨hS0, hS1⟩ := hS'; go_simp; try (first | rfl | decide +kernel)))) | (refine wpAnyG_take (i := 7) (v := .int .i64 a) rfl ?_ ?_ ?_ (fun _ _ _ h => h) (Or.inl ⟨by rfl, ?_⟩) hS ?_; (· decide +kernel); (· decide +kernel); (· decide +kernel); (· (intro w' hS'; obtain ⟨hS0, hS1⟩ := hS'; go_simp; try (first | rfl | decide +kernel)))))
        refine wpAnyG_ready (rs := [8]) (by decide +kernel) (by simp) ?_
        refine AllReadyG.cons rfl (fun K hK => ?_) AllReadyG.nil
        go_simp
        have HPD := Lib.hid (HPW.out.below (Below.refl _ W).drew)
        refine (CA.out _ HPD.out.2.2).mono ?_
        rintro e w5 ⟨rfl, hb5⟩
        dsimp only
        have f5 : Blk w5 X 36 [.int .i64 1, .int .i64 a, .int .i64 0] := (hb5.block X HFX.out.lt).trans HFX.out
        have g0 := f5.cell 0
        have g1 := f5.cell 1
        have g2 := f5.cell 2
        simp only [List.getElem?_cons_succ, List.getElem?_cons_zero] at g0 g1 g2
        have HP5 := Lib.hid (HPD.out.below hb5)
        have lX5 := f5.lt
        refine hK _ _ (fun _ => ⟨g0, g1⟩) ?_
        clear hK K hS x0 x1 lX hb5 f5 CA
        refine wpAnyG_ready (rs := [9]) (by decide +kernel) (by simp) ?_
        refine AllReadyG.cons rfl (fun K hK => ?_) AllReadyG.nil
        go_simp
        rw [if_neg (by omega)]
        refine hK _ _ (fun h => absurd h (by decide)) ?_
        clear hK K
        refine wpAnyG_ready (rs := [10]) (by decide +kernel) (by simp) ?_
        refine AllReadyG.cons rfl (fun K hK => ?_) AllReadyG.nil
        go_simp
        refine hK _ _ (fun h => absurd h (by decide)) ?_
        clear hK K
        refine wpAnyG_done (by decide +kernel) ?_ _
        obtain ⟨DC, hDC⟩ : ∃ DC : ByteArray, DC = ((ByteArray.mk #[103]) ++ DA) := ⟨_, rfl⟩
        obtain ⟨w7, hw7⟩ : ∃ V, V = w5.alloc (.cells #[.string DC] 9) := ⟨_, rfl⟩
        have b7 : Below w5.heap.size w5 w7 := by rw [hw7]; exact (Below.refl _ _).alloc (Nat.le_refl _) _
        have hDCx : DC = ⟨(partC ⟨1, a, 0⟩).toArray⟩ := hDC.trans HX.out
        have sg7 : Seg w7 9 1 (.slice A3 k c3) k (cat stC ((l.take k).map partC)) := by
          have := (HP5.out.below b7).1
          rw [HL.out] at this
          exact this
        have rd7 : Reads w7 Any 1 (some ⟨w5.heap.size, 0, none⟩) 1 (stC (partC ⟨1, a, 0⟩)) := by
          have e1 : stC (partC ⟨1, a, 0⟩) = [.string DC] := by rw [hDCx]; rfl
          rw [hw7, e1]
          exact Reads.new w5 [.string DC] 1 1 _ Any trivial rfl
        obtain ⟨v8, w8, hap, sg8, hg8, hat8⟩ := sg7.app el_st rd7 (by omega) (stC_one _) (by omega) (c := 1) 40
        have HP8 := HP5.out.put b7 (partC ⟨1, a, 0⟩) (by rw [HL.out]; exact sg8) hg8 hat8
        have HF := Lib.hid HP8
        rw [hw7, hDC] at hap
        clear HP8 sg7 rd7 sg8 hg8 hat8 hDC hDCx hw7 b7
        go_wp2_with (at_builtin; refine wpList_app_run rfl (.tmp 61) (.tmp 63) rfl rfl rfl hap ?_; clear hap)
        go_roundw
        case rel =>
          first
            | exact ⟨k + 1, by omega, by go_num, Lib.hid (by rw [NX.out]; exact HF.out)⟩
            | ((repeat apply Exists.intro); exact ⟨⟨k + 1, by omega, by go_num, Lib.hid (by rw [NX.out]; exact HF.out)⟩, rfl⟩)
        case measure => simp [intOf]; omega
      · by_cases hb0 : b = 0
        · subst hb0
          have HX := Lib.hid (show (ByteArray.mk #[99]) ++ DA ++ ((ByteArray.mk #[45]) ++ DB) = ⟨(partC ⟨2, a, 0⟩).toArray⟩ from by
            rw [rest_two, hDA, hDB]
            apply ByteArray.ext
            simp)
          have HR5 := Lib.hid (And.intro hDA hDB)
          clear hDA hDB r1 r2 r3 r4 r5
          obtain ⟨W, hW⟩ : ∃ W, W = wr.alloc (.cells #[.int .i64 2, .int .i64 a, .int .i64 0] 36) := ⟨_, rfl⟩
          obtain ⟨X, hX⟩ : ∃ X, X = wr.heap.size := ⟨_, rfl⟩
          have bW : Below wr.heap.size wr W := by rw [hW]; exact (Below.refl _ _).alloc (Nat.le_refl _) _
          have fX : Blk W X 36 [.int .i64 2, .int .i64 a, .int .i64 0] := by rw [hW, hX]; exact Blk.new wr _ _
          have HPW := Lib.hid (HP.out.below bW)
          have HFX := Lib.hid fX
          have HW := Lib.hid hW
          have HXe := Lib.hid hX
          clear hW hX bW
          go_upto_region 7 with (fail)
          rw [← HW.out, ← HXe.out]
          have x0 := fX.cell 0
          have x1 := fX.cell 1
          simp only [List.getElem?_cons_succ, List.getElem?_cons_zero] at x0 x1
          have lX := fX.lt
          clear fX q0 q1 q2 lq
          refine wp_region_g (S := fun V => V.cell? ⟨X, 0, none⟩ = some (.int .i64 2) ∧ V.cell? ⟨X, 1, none⟩ = some (.int .i64 a)) (m := 9) (by kernel_rfl) ?_
          have hS : (World.drew W).cell? ⟨X, 0, none⟩ = some (.int .i64 2) ∧ (World.drew W).cell? ⟨X, 1, none⟩ = some (.int .i64 a) := ⟨x0, x1⟩
          repeat (first | (refine wpAnyG_take (i := 0) (v := .pointer (some ⟨X, 0, none⟩)) rfl ?_ ?_ ?_ (fun _ _ _ h => h) (Or.inl ⟨by rfl, ?_⟩) hS ?_; (· decide +kernel); (· decide +kernel); (· decide +kernel); (· (intro w' hS'; obtain ⟨hS0, hS1⟩ := hS'; go_simp; try (first | rfl | decide +kernel)))) | (refine wpAnyG_take (i := 1) (v := .int .i64 2) rfl ?_ ?_ ?_ (fun _ _ _ h => h) (Or.inl ⟨by rfl, ?_⟩) hS ?_; (· decide +kernel); (· decide +kernel); (· decide +kernel); (· (intro w' hS'; obtain ⟨hS0, hS1⟩ := hS'; go_simp; try (first | rfl | decide +kernel)))) | (refine wpAnyG_take (i := 2) (v := .int .i64 1) rfl ?_ ?_ ?_ (fun _ _ _ h => h) (Or.inl ⟨by rfl, ?_⟩) hS ?_; (· decide +kernel); (· decide +kernel); (· decide +kernel); (· (intro w' hS'; obtain ⟨hS0, hS1⟩ := hS'; go_simp; try (first | rfl | decide +kernel)))) | (refine wpAnyG_take (i := 3) (v := .pointer (some ⟨X, 0, none⟩)) rfl ?_ ?_ ?_ (fun _ _ _ h => h) (Or.inl ⟨by rfl, ?_⟩) hS ?_; (· decide +kernel); (· decide +kernel); (· decide +kernel); (· (intro w' hS'; obtain ⟨hS0, hS1⟩ := hS'; go_simp; try (first | rfl | decide +kernel)))) | (refine wpAnyG_take (i := 4) (v := .int .i64 2) rfl ?_ ?_ ?_ (fun _ _ _ h => h) (Or.inl ⟨by rfl, ?_⟩) hS ?_; (· decide +kernel); (· decide +kernel); (· decide +kernel); (· (intro w' hS'; obtain ⟨hS0, hS1⟩ := hS'; go_simp; try (first | rfl | decide +kernel)))) | (refine wpAnyG_take (i := 5) (v := .string ⟨#[99]⟩) rfl ?_ ?_ ?_ (fun _ _ _ h => h) (Or.inl ⟨by rfl, ?_⟩) hS ?_; (· decide +kernel); (· decide +kernel); (· decide +kernel); (· (intro w' hS'; obtain ⟨hS0, hS1⟩ := hS'; go_simp; try (first | rfl | decide +kernel)))) | (refine wpAnyG_take (i := 6) (v := .pointer (some ⟨X, 1, none⟩)) rfl ?_ ?_ ?_ (fun _ _ _ h => h) (Or.inl ⟨by rfl, ?_⟩) hS ?_; (· decide +kernel); (· decide +kernel); (· decide +kernel); (· (intro w' hS'; obtain ⟨hS0, hS1⟩ := hS'; go_simp; try (first | rfl | decide +kernel)))) | (refine wpAnyG_take (i := 7) (v := .int .i64 a) rfl ?_ ?_ ?_ (fun _ _ _ h => h) (Or.inl ⟨by rfl, ?_⟩) hS ?_; (· decide +kernel); (· decide +kernel); (· decide +kernel); (· (intro w' hS'; obtain ⟨hS0, hS1⟩ := hS'; go_simp; try (first | rfl | decide +kernel)))))
          refine wpAnyG_ready (rs := [8]) (by decide +kernel) (by simp) ?_
          refine AllReadyG.cons rfl (fun K hK => ?_) AllReadyG.nil
          go_simp
          have HPD := Lib.hid (HPW.out.below (Below.refl _ W).drew)
          refine (CA.out _ HPD.out.2.2).mono ?_
          rintro e w5 ⟨rfl, hb5⟩
          dsimp only
          have f5 : Blk w5 X 36 [.int .i64 2, .int .i64 a, .int .i64 0] := (hb5.block X HFX.out.lt).trans HFX.out
          have g0 := f5.cell 0
          have g1 := f5.cell 1
          have g2 := f5.cell 2
          simp only [List.getElem?_cons_succ, List.getElem?_cons_zero] at g0 g1 g2
          have HP5 := Lib.hid (HPD.out.below hb5)
          have lX5 := f5.lt
          refine hK _ _ (fun _ => ⟨g0, g1⟩) ?_
          clear hK K hS x0 x1 lX hb5 f5 CA
          refine wpAnyG_ready (rs := [9]) (by decide +kernel) (by simp) ?_
          refine AllReadyG.cons rfl (fun K hK => ?_) AllReadyG.nil
          go_simp
          rw [if_neg (by omega)]
          refine hK _ _ (fun h => absurd h (by decide)) ?_
          clear hK K
          refine wpAnyG_ready (rs := [10]) (by decide +kernel) (by simp) ?_
          refine AllReadyG.cons rfl (fun K hK => ?_) AllReadyG.nil
          go_simp
          refine hK _ _ (fun h => absurd h (by decide)) ?_
          clear hK K
          refine wpAnyG_done (by decide +kernel) ?_ _
          go_wp2_with (fail)
          refine (CB.out w5 HP5.out.2.2).mono ?_
          rintro e w6 ⟨rfl, hb6⟩
          dsimp only
          have HP6 := Lib.hid (HP5.out.below hb6)
          clear hb6 g0 g1 g2 lX5 CB
          obtain ⟨DC, hDC⟩ : ∃ DC : ByteArray, DC = ((ByteArray.mk #[99]) ++ DA ++ ((ByteArray.mk #[45]) ++ DB)) := ⟨_, rfl⟩
          obtain ⟨w7, hw7⟩ : ∃ V, V = w6.alloc (.cells #[.string DC] 9) := ⟨_, rfl⟩
          have b7 : Below w6.heap.size w6 w7 := by rw [hw7]; exact (Below.refl _ _).alloc (Nat.le_refl _) _
          have hDCx : DC = ⟨(partC ⟨2, a, 0⟩).toArray⟩ := hDC.trans HX.out
          have sg7 : Seg w7 9 1 (.slice A3 k c3) k (cat stC ((l.take k).map partC)) := by
            have := (HP6.out.below b7).1
            rw [HL.out] at this
            exact this
          have rd7 : Reads w7 Any 1 (some ⟨w6.heap.size, 0, none⟩) 1 (stC (partC ⟨2, a, 0⟩)) := by
            have e1 : stC (partC ⟨2, a, 0⟩) = [.string DC] := by rw [hDCx]; rfl
            rw [hw7, e1]
            exact Reads.new w6 [.string DC] 1 1 _ Any trivial rfl
          obtain ⟨v8, w8, hap, sg8, hg8, hat8⟩ := sg7.app el_st rd7 (by omega) (stC_one _) (by omega) (c := 1) 40
          have HP8 := HP6.out.put b7 (partC ⟨2, a, 0⟩) (by rw [HL.out]; exact sg8) hg8 hat8
          have HF := Lib.hid HP8
          rw [hw7, hDC] at hap
          clear HP8 sg7 rd7 sg8 hg8 hat8 hDC hDCx hw7 b7
          go_wp2_with (at_builtin; refine wpList_app_run rfl (.tmp 61) (.tmp 63) rfl rfl rfl hap ?_; clear hap)
          go_roundw
          case rel =>
            first
              | exact ⟨k + 1, by omega, by go_num, Lib.hid (by rw [NX.out]; exact HF.out)⟩
              | ((repeat apply Exists.intro); exact ⟨⟨k + 1, by omega, by go_num, Lib.hid (by rw [NX.out]; exact HF.out)⟩, rfl⟩)
          case measure => simp [intOf]; omega
        · have HX := Lib.hid (show (ByteArray.mk #[99]) ++ DA ++ ((ByteArray.mk #[45]) ++ DB) = ⟨(partC ⟨2, a, b⟩).toArray⟩ from by
            rw [rest_two, hDA, hDB]
            apply ByteArray.ext
            simp)
          have HR5 := Lib.hid (And.intro hDA hDB)
          clear hDA hDB r1 r2 r3 r4 r5
          obtain ⟨W, hW⟩ : ∃ W, W = wr.alloc (.cells #[.int .i64 2, .int .i64 a, .int .i64 b] 36) := ⟨_, rfl⟩
          obtain ⟨X, hX⟩ : ∃ X, X = wr.heap.size := ⟨_, rfl⟩
          have bW : Below wr.heap.size wr W := by rw [hW]; exact (Below.refl _ _).alloc (Nat.le_refl _) _
          have fX : Blk W X 36 [.int .i64 2, .int .i64 a, .int .i64 b] := by rw [hW, hX]; exact Blk.new wr _ _
          have HPW := Lib.hid (HP.out.below bW)
          have HFX := Lib.hid fX
          have HW := Lib.hid hW
          have HXe := Lib.hid hX
          have nz : (b != 0) = true := by simpa using hb0
          have nz2 : (b == 0) = false := by simpa using hb0
          clear hW hX bW
          go_upto_region 7 with (fail)
          rw [← HW.out, ← HXe.out]
          have x0 := fX.cell 0
          have x1 := fX.cell 1
          simp only [List.getElem?_cons_succ, List.getElem?_cons_zero] at x0 x1
          have lX := fX.lt
          clear fX q0 q1 q2 lq
          refine wp_region_g (S := fun V => V.cell? ⟨X, 0, none⟩ = some (.int .i64 2) ∧ V.cell? ⟨X, 1, none⟩ = some (.int .i64 a)) (m := 9) (by kernel_rfl) ?_
          have hS : (World.drew W).cell? ⟨X, 0, none⟩ = some (.int .i64 2) ∧ (World.drew W).cell? ⟨X, 1, none⟩ = some (.int .i64 a) := ⟨x0, x1⟩
          repeat (first | (refine wpAnyG_take (i := 0) (v := .pointer (some ⟨X, 0, none⟩)) rfl ?_ ?_ ?_ (fun _ _ _ h => h) (Or.inl ⟨by rfl, ?_⟩) hS ?_; (· decide +kernel); (· decide +kernel); (· decide +kernel); (· (intro w' hS'; obtain ⟨hS0, hS1⟩ := hS'; go_simp; try (first | rfl | decide +kernel)))) | (refine wpAnyG_take (i := 1) (v := .int .i64 2) rfl ?_ ?_ ?_ (fun _ _ _ h => h) (Or.inl ⟨by rfl, ?_⟩) hS ?_; (· decide +kernel); (· decide +kernel); (· decide +kernel); (· (intro w' hS'; obtain ⟨hS0, hS1⟩ := hS'; go_simp; try (first | rfl | decide +kernel)))) | (refine wpAnyG_take (i := 2) (v := .int .i64 1) rfl ?_ ?_ ?_ (fun _ _ _ h => h) (Or.inl ⟨by rfl, ?_⟩) hS ?_; (· decide +kernel); (· decide +kernel); (· decide +kernel); (· (intro w' hS'; obtain ⟨hS0, hS1⟩ := hS'; go_simp; try (first | rfl | decide +kernel)))) | (refine wpAnyG_take (i := 3) (v := .pointer (some ⟨X, 0, none⟩)) rfl ?_ ?_ ?_ (fun _ _ _ h => h) (Or.inl ⟨by rfl, ?_⟩) hS ?_; (· decide +kernel); (· decide +kernel); (· decide +kernel); (· (intro w' hS'; obtain ⟨hS0, hS1⟩ := hS'; go_simp; try (first | rfl | decide +kernel)))) | (refine wpAnyG_take (i := 4) (v := .int .i64 2) rfl ?_ ?_ ?_ (fun _ _ _ h => h) (Or.inl ⟨by rfl, ?_⟩) hS ?_; (· decide +kernel); (· decide +kernel); (· decide +kernel); (· (intro w' hS'; obtain ⟨hS0, hS1⟩ := hS'; go_simp; try (first | rfl | decide +kernel)))) | (refine wpAnyG_take (i := 5) (v := .string ⟨#[99]⟩) rfl ?_ ?_ ?_ (fun _ _ _ h => h) (Or.inl ⟨by rfl, ?_⟩) hS ?_; (· decide +kernel); (· decide +kernel); (· decide +kernel); (· (intro w' hS'; obtain ⟨hS0, hS1⟩ := hS'; go_simp; try (first | rfl | decide +kernel)))) | (refine wpAnyG_take (i := 6) (v := .pointer (some ⟨X, 1, none⟩)) rfl ?_ ?_ ?_ (fun _ _ _ h => h) (Or.inl ⟨by rfl, ?_⟩) hS ?_; (· decide +kernel); (· decide +kernel); (· decide +kernel); (· (intro w' hS'; obtain ⟨hS0, hS1⟩ := hS'; go_simp; try (first | rfl | decide +kernel)))) | (refine wpAnyG_take (i := 7) (v := .int .i64 a) rfl ?_ ?_ ?_ (fun _ _ _ h => h) (Or.inl ⟨by rfl, ?_⟩) hS ?_; (· decide +kernel); (· decide +kernel); (· decide +kernel); (· (intro w' hS'; obtain ⟨hS0, hS1⟩ := hS'; go_simp; try (first | rfl | decide +kernel)))))
          refine wpAnyG_ready (rs := [8]) (by decide +kernel) (by simp) ?_
          refine AllReadyG.cons rfl (fun K hK => ?_) AllReadyG.nil
          go_simp
          have HPD := Lib.hid (HPW.out.below (Below.refl _ W).drew)
          refine (CA.out _ HPD.out.2.2).mono ?_
          rintro e w5 ⟨rfl, hb5⟩
          dsimp only
          have f5 : Blk w5 X 36 [.int .i64 2, .int .i64 a, .int .i64 b] := (hb5.block X HFX.out.lt).trans HFX.out
          have g0 := f5.cell 0
          have g1 := f5.cell 1
          have g2 := f5.cell 2
          simp only [List.getElem?_cons_succ, List.getElem?_cons_zero] at g0 g1 g2
          have HP5 := Lib.hid (HPD.out.below hb5)
          have lX5 := f5.lt
          refine hK _ _ (fun _ => ⟨g0, g1⟩) ?_
          clear hK K hS x0 x1 lX hb5 f5 CA
          refine wpAnyG_ready (rs := [9]) (by decide +kernel) (by simp) ?_
          refine AllReadyG.cons rfl (fun K hK => ?_) AllReadyG.nil
          go_simp
          rw [if_neg (by omega)]
          refine hK _ _ (fun h => absurd h (by decide)) ?_
          clear hK K
          refine wpAnyG_ready (rs := [10]) (by decide +kernel) (by simp) ?_
          refine AllReadyG.cons rfl (fun K hK => ?_) AllReadyG.nil
          go_simp
          refine hK _ _ (fun h => absurd h (by decide)) ?_
          clear hK K
          refine wpAnyG_done (by decide +kernel) ?_ _
          go_wp2_with (fail)
          refine (CB.out w5 HP5.out.2.2).mono ?_
          rintro e w6 ⟨rfl, hb6⟩
          dsimp only
          have HP6 := Lib.hid (HP5.out.below hb6)
          clear hb6 g0 g1 g2 lX5 CB
          obtain ⟨DC, hDC⟩ : ∃ DC : ByteArray, DC = ((ByteArray.mk #[99]) ++ DA ++ ((ByteArray.mk #[45]) ++ DB)) := ⟨_, rfl⟩
          obtain ⟨w7, hw7⟩ : ∃ V, V = w6.alloc (.cells #[.string DC] 9) := ⟨_, rfl⟩
          have b7 : Below w6.heap.size w6 w7 := by rw [hw7]; exact (Below.refl _ _).alloc (Nat.le_refl _) _
          have hDCx : DC = ⟨(partC ⟨2, a, b⟩).toArray⟩ := hDC.trans HX.out
          have sg7 : Seg w7 9 1 (.slice A3 k c3) k (cat stC ((l.take k).map partC)) := by
            have := (HP6.out.below b7).1
            rw [HL.out] at this
            exact this
          have rd7 : Reads w7 Any 1 (some ⟨w6.heap.size, 0, none⟩) 1 (stC (partC ⟨2, a, b⟩)) := by
            have e1 : stC (partC ⟨2, a, b⟩) = [.string DC] := by rw [hDCx]; rfl
            rw [hw7, e1]
            exact Reads.new w6 [.string DC] 1 1 _ Any trivial rfl
          obtain ⟨v8, w8, hap, sg8, hg8, hat8⟩ := sg7.app el_st rd7 (by omega) (stC_one _) (by omega) (c := 1) 40
          have HP8 := HP6.out.put b7 (partC ⟨2, a, b⟩) (by rw [HL.out]; exact sg8) hg8 hat8
          have HF := Lib.hid HP8
          rw [hw7, hDC] at hap
          clear HP8 sg7 rd7 sg8 hg8 hat8 hDC hDCx hw7 b7
          go_wp2_with (at_builtin; refine wpList_app_run rfl (.tmp 61) (.tmp 63) rfl rfl rfl hap ?_; clear hap)
          go_roundw
          case rel =>
            first
              | exact ⟨k + 1, by omega, by go_num, Lib.hid (by rw [NX.out]; exact HF.out)⟩
              | ((repeat apply Exists.intro); exact ⟨⟨k + 1, by omega, by go_num, Lib.hid (by rw [NX.out]; exact HF.out)⟩, rfl⟩)
          case measure => simp [intOf]; omega
      · obtain rfl : b = 0 := r5 (by decide)
        have HX := Lib.hid (show (ByteArray.mk #[108]) ++ DA = ⟨(partC ⟨3, a, 0⟩).toArray⟩ from by
          rw [rest_one (by decide), hDA]
          apply ByteArray.ext
          simp [letterC])
        clear CB
        have HR5 := Lib.hid (And.intro hDA hDB)
        clear hDA hDB r1 r2 r3 r4 r5
        obtain ⟨W, hW⟩ : ∃ W, W = wr.alloc (.cells #[.int .i64 3, .int .i64 a, .int .i64 0] 36) := ⟨_, rfl⟩
        obtain ⟨X, hX⟩ : ∃ X, X = wr.heap.size := ⟨_, rfl⟩
        have bW : Below wr.heap.size wr W := by rw [hW]; exact (Below.refl _ _).alloc (Nat.le_refl _) _
        have fX : Blk W X 36 [.int .i64 3, .int .i64 a, .int .i64 0] := by rw [hW, hX]; exact Blk.new wr _ _
        have HPW := Lib.hid (HP.out.below bW)
        have HFX := Lib.hid fX
        have HW := Lib.hid hW
        have HXe := Lib.hid hX
        clear hW hX bW
        go_upto_region 7 with (fail)
        rw [← HW.out, ← HXe.out]
        have x0 := fX.cell 0
        have x1 := fX.cell 1
        simp only [List.getElem?_cons_succ, List.getElem?_cons_zero] at x0 x1
        have lX := fX.lt
        clear fX q0 q1 q2 lq
        refine wp_region_g (S := fun V => V.cell? ⟨X, 0, none⟩ = some (.int .i64 3) ∧ V.cell? ⟨X, 1, none⟩ = some (.int .i64 a)) (m := 9) (by kernel_rfl) ?_
        have hS : (World.drew W).cell? ⟨X, 0, none⟩ = some (.int .i64 3) ∧ (World.drew W).cell? ⟨X, 1, none⟩ = some (.int .i64 a) := ⟨x0, x1⟩
        repeat (first | (refine wpAnyG_take (i := 0) (v := .pointer (some ⟨X, 0, none⟩)) rfl ?_ ?_ ?_ (fun _ _ _ h => h) (Or.inl ⟨by rfl, ?_⟩) hS ?_; (· decide +kernel); (· decide +kernel); (· decide +kernel); (· (intro w' hS'; obtain ⟨hS0, hS1⟩ := hS'; go_simp; try (first | rfl | decide +kernel)))) | (refine wpAnyG_take (i := 1) (v := .int .i64 3) rfl ?_ ?_ ?_ (fun _ _ _ h => h) (Or.inl ⟨by rfl, ?_⟩) hS ?_; (· decide +kernel); (· decide +kernel); (· decide +kernel); (· (intro w' hS'; obtain ⟨hS0, hS1⟩ := hS'; go_simp; try (first | rfl | decide +kernel)))) | (refine wpAnyG_take (i := 2) (v := .int .i64 2) rfl ?_ ?_ ?_ (fun _ _ _ h => h) (Or.inl ⟨by rfl, ?_⟩) hS ?_; (· decide +kernel); (· decide +kernel); (· decide +kernel); (· (intro w' hS'; obtain ⟨hS0, hS1⟩ := hS'; go_simp; try (first | rfl | decide +kernel)))) | (refine wpAnyG_take (i := 3) (v := .pointer (some ⟨X, 0, none⟩)) rfl ?_ ?_ ?_ (fun _ _ _ h => h) (Or.inl ⟨by rfl, ?_⟩) hS ?_; (· decide +kernel); (· decide +kernel); (· decide +kernel); (· (intro w' hS'; obtain ⟨hS0, hS1⟩ := hS'; go_simp; try (first | rfl | decide +kernel)))) | (refine wpAnyG_take (i := 4) (v := .int .i64 3) rfl ?_ ?_ ?_ (fun _ _ _ h => h) (Or.inl ⟨by rfl, ?_⟩) hS ?_; (· decide +kernel); (· decide +kernel); (· decide +kernel); (· (intro w' hS'; obtain ⟨hS0, hS1⟩ := hS'; go_simp; try (first | rfl | decide +kernel)))) | (refine wpAnyG_take (i := 5) (v := .string ⟨#[108]⟩) rfl ?_ ?_ ?_ (fun _ _ _ h => h) (Or.inl ⟨by rfl, ?_⟩) hS ?_; (· decide +kernel); (· decide +kernel); (· decide +kernel); (· (intro w' hS'; obtain ⟨hS0, hS1⟩ := hS'; go_simp; try (first | rfl | decide +kernel)))) | (refine wpAnyG_take (i := 6) (v := .pointer (some ⟨X, 1, none⟩)) rfl ?_ ?_ ?_ (fun _ _ _ h => h) (Or.inl ⟨by rfl, ?_⟩) hS ?_; (· decide +kernel); (· decide +kernel); (· decide +kernel); (· (intro w' hS'; obtain ⟨hS0, hS1⟩ := hS'; go_simp; try (first | rfl | decide +kernel)))) | (refine wpAnyG_take (i := 7) (v := .int .i64 a) rfl ?_ ?_ ?_ (fun _ _ _ h => h) (Or.inl ⟨by rfl, ?_⟩) hS ?_; (· decide +kernel); (· decide +kernel); (· decide +kernel); (· (intro w' hS'; obtain ⟨hS0, hS1⟩ := hS'; go_simp; try (first | rfl | decide +kernel)))))
        refine wpAnyG_ready (rs := [8]) (by decide +kernel) (by simp) ?_
        refine AllReadyG.cons rfl (fun K hK => ?_) AllReadyG.nil
        go_simp
        have HPD := Lib.hid (HPW.out.below (Below.refl _ W).drew)
        refine (CA.out _ HPD.out.2.2).mono ?_
        rintro e w5 ⟨rfl, hb5⟩
        dsimp only
        have f5 : Blk w5 X 36 [.int .i64 3, .int .i64 a, .int .i64 0] := (hb5.block X HFX.out.lt).trans HFX.out
        have g0 := f5.cell 0
        have g1 := f5.cell 1
        have g2 := f5.cell 2
        simp only [List.getElem?_cons_succ, List.getElem?_cons_zero] at g0 g1 g2
        have HP5 := Lib.hid (HPD.out.below hb5)
        have lX5 := f5.lt
        refine hK _ _ (fun _ => ⟨g0, g1⟩) ?_
        clear hK K hS x0 x1 lX hb5 f5 CA
        refine wpAnyG_ready (rs := [9]) (by decide +kernel) (by simp) ?_
        refine AllReadyG.cons rfl (fun K hK => ?_) AllReadyG.nil
        go_simp
        rw [if_neg (by omega)]
        refine hK _ _ (fun h => absurd h (by decide)) ?_
        clear hK K
        refine wpAnyG_ready (rs := [10]) (by decide +kernel) (by simp) ?_
        refine AllReadyG.cons rfl (fun K hK => ?_) AllReadyG.nil
        go_simp
        refine hK _ _ (fun h => absurd h (by decide)) ?_
        clear hK K
        refine wpAnyG_done (by decide +kernel) ?_ _
        obtain ⟨DC, hDC⟩ : ∃ DC : ByteArray, DC = ((ByteArray.mk #[108]) ++ DA) := ⟨_, rfl⟩
        obtain ⟨w7, hw7⟩ : ∃ V, V = w5.alloc (.cells #[.string DC] 9) := ⟨_, rfl⟩
        have b7 : Below w5.heap.size w5 w7 := by rw [hw7]; exact (Below.refl _ _).alloc (Nat.le_refl _) _
        have hDCx : DC = ⟨(partC ⟨3, a, 0⟩).toArray⟩ := hDC.trans HX.out
        have sg7 : Seg w7 9 1 (.slice A3 k c3) k (cat stC ((l.take k).map partC)) := by
          have := (HP5.out.below b7).1
          rw [HL.out] at this
          exact this
        have rd7 : Reads w7 Any 1 (some ⟨w5.heap.size, 0, none⟩) 1 (stC (partC ⟨3, a, 0⟩)) := by
          have e1 : stC (partC ⟨3, a, 0⟩) = [.string DC] := by rw [hDCx]; rfl
          rw [hw7, e1]
          exact Reads.new w5 [.string DC] 1 1 _ Any trivial rfl
        obtain ⟨v8, w8, hap, sg8, hg8, hat8⟩ := sg7.app el_st rd7 (by omega) (stC_one _) (by omega) (c := 1) 40
        have HP8 := HP5.out.put b7 (partC ⟨3, a, 0⟩) (by rw [HL.out]; exact sg8) hg8 hat8
        have HF := Lib.hid HP8
        rw [hw7, hDC] at hap
        clear HP8 sg7 rd7 sg8 hg8 hat8 hDC hDCx hw7 b7
        go_wp2_with (at_builtin; refine wpList_app_run rfl (.tmp 61) (.tmp 63) rfl rfl rfl hap ?_; clear hap)
        go_roundw
        case rel =>
          first
            | exact ⟨k + 1, by omega, by go_num, Lib.hid (by rw [NX.out]; exact HF.out)⟩
            | ((repeat apply Exists.intro); exact ⟨⟨k + 1, by omega, by go_num, Lib.hid (by rw [NX.out]; exact HF.out)⟩, rfl⟩)
        case measure => simp [intOf]; omega
    · have hks : l.take k = l := List.take_of_length_le (by have := HR.out.2.1; omega)
      obtain rfl : k = n := by omega
      rw [hks] at HP
      obtain ⟨A3, c3, rfl⟩ := HP.out.form
      have hnl : k = (l.map partC).length := by rw [List.length_map]; exact HR.out.2.1
      rw [← hnl] at HP ⊢
      have hbd := join_len l HR.out.2.2
      have CJ := Lib.hid (join_any w wr A3 k c3 (l.map partC) HP.out hnl (by have := HR.out.2.1; unfold textC at hbd; omega) (by omega))
      have HX := Lib.hid (show Lib.join (l.map partC) [32] = textC l from rfl)
      have HB := Lib.hid HP.out.2.2
      rw [HX.out] at CJ
      clear hks hbd hnl
      go_wp2_with (fail)
      refine CJ.out.mono ?_
      rintro e w7 ⟨rfl, hb7⟩
      have HB7 := Lib.hid (HB.out.trans (hb7.mono HB.out.size))
      clear hb7
      go_wp2_with (fail)
      go_ret2
      exact ⟨rfl, HB7.out⟩
end Go.Proofs.YtlpkgheggbcidaaDoor
