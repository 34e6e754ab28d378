/- Contract of tree.Walk at the bodies of the laws' module. (Printed by qrwalk.py.) -/
import Derived.Test.YtaealapgebbnlaaGreatDoorQrAdd
import Derived.Deep.DeepCutAuto
import Derived.Laws.EntriesVeiled
set_option linter.unusedVariables false
namespace Go.Mem
open Go.RowKit
theorem own_succ {w : World} {base : Nat} {e : TypeId} {size : Nat} {v : Value} {k : Nat} {xs : List Value} (h : w.ownsRow base e size v (k + 1) xs) : ∃ g cap, v = .slice (some ⟨g, 0, none⟩) (k + 1) cap := by
  rcases h.2 with ⟨_, h0⟩ | ⟨g, cap, cur, hv, _⟩
  · omega
  · exact ⟨g, cap, hv⟩
theorem own_blk {w : World} {base : Nat} {e : TypeId} {size g n cap : Nat} {xs : List Value} (h : w.ownsRow base e size (.slice (some ⟨g, 0, none⟩) n cap) n xs) : ∃ cur : Array Value, w.heap[g]? = some (.cells cur e (0, 0)) ∧ cur.toList.take (n * size) = xs := by
  obtain ⟨hl, h⟩ := h
  rcases h with ⟨hn, _⟩ | ⟨g', cap', cur, hv, hb, hg, h1, h2, h3, h4⟩
  · cases hn
  · injection hv with e1 e2 e3
    injection e1 with e1
    injection e1 with e1
    subst e1
    exact ⟨cur, hg, h4⟩
theorem own_cell {w : World} {base : Nat} {e : TypeId} {size g n cap : Nat} {xs : List Value} (h : w.ownsRow base e size (.slice (some ⟨g, 0, none⟩) n cap) n xs) {o : Nat} {u : Value} (ho : xs[o]? = some u) : w.cell? ⟨g, o, none⟩ = some u := by
  have hl := h.1
  obtain ⟨cur, hg, h4⟩ := own_blk h
  have hb : Blk w g e cur.toList := by unfold Blk; simpa using hg
  rw [hb.cell]
  rw [← h4, List.getElem?_take] at ho
  split at ho
  · exact ho
  · cases ho
theorem own_frozen {w : World} {base : Nat} {e : TypeId} {size g n cap : Nat} {xs : List Value} (h : w.ownsRow base e size (.slice (some ⟨g, 0, none⟩) n cap) n xs) (o : Nat) : w.frozen? ⟨g, o, none⟩ = false := by
  obtain ⟨cur, hg, h4⟩ := own_blk h
  have hb : Blk w g e cur.toList := by unfold Blk; simpa using hg
  exact hb.frozen o
theorem own_set {w : World} {base : Nat} {e : TypeId} {size g n cap : Nat} {xs : List Value} (h : w.ownsRow base e size (.slice (some ⟨g, 0, none⟩) n cap) n xs) (o : Nat) (u : Value) : (w.setCell ⟨g, o, none⟩ u).ownsRow base e size (.slice (some ⟨g, 0, none⟩) n cap) n (xs.set o u) := by
  obtain ⟨hl, h⟩ := h
  rcases h with ⟨hn, _⟩ | ⟨g', cap', cur, hv, hb, hg, h1, h2, h3, h4⟩
  · cases hn
  · injection hv with e1 e2 e3
    injection e1 with e1
    injection e1 with e1
    subst e1
    subst e3
    have hb2 : Blk w g e cur.toList := by unfold Blk; simpa using hg
    refine ⟨by simp [hl], .inr ⟨g, cap, (cur.toList.set o u).toArray, rfl, hb, hb2.put o u, h1, h2, by simp [h3], ?_⟩⟩
    rw [← h4, List.take_set]
end Go.Mem
namespace Go.Proofs.YtaealapgebbnlaaGreatDoor
open Go.RowKit Go.Mem Go.Md
theorem info_ex : (Tryz.prog.info? 50).map (fun i => (i.zero, i.size, i.bytes)) = some (some (.agg #[.int .i64 0, .int .i64 0, .string ⟨#[]⟩, .slice none 0 0, .slice none 0 0, .slice none 0 0, .slice none 0 0, .int .i64 0]), 8, 136) := by kernel_rfl
theorem step_app_ex (w : World) {ops : Array Oper} {o : Oper} {a : Act} {K : Act → World → Prop} {Q : Exit → Act → World → Prop} {E : Prop} (hgd : o.guard = none) (s x : Operand)
    (ho : o.op = .call { callee := .builtin .append, args := #[s, x], argTypes := #[47, 47] })
    {base : Nat} {v : Value} {n : Nat} {xs : List Value} (hown : w.ownsRow base 50 8 v n xs) (hs : a.eval s = v)
    {D : Nat → Prop} {A : Option Addr} {m : Nat} {news : List Value} (hr : Reads w D 8 A m news) {c : Nat} (hx : a.eval x = .slice A m c) (h1 : ∀ u ∈ news, u.oneCell' = true)
    (h63 : n + m ≤ 109951162) (hbase : base ≤ w.heap.size)
    (h : ∀ v' w', w'.ownsRow base 50 8 v' (n + m) (xs ++ news) → w.grownBy w' v.ownBlock → (v'.ownBlock = v.ownBlock ∨ v'.ownBlock = some w.heap.size) → K (a.put o.dst v') w') :
    if Region.wanted o (yielded ops a.tmps) = true then Oper.wp Tryz.prog o a w K Q else E := by
  obtain ⟨i0, hi0, hz0, hz1, hz2⟩ := info_parts info_ex
  exact step_append_any w hgd s x _ ho base _ i0 _ 8 136 Tryz.underlying47 hi0 hz0 hz1 hz2 rfl (by omega) v n xs hs hown D A m c news hx hr h1 (by simp only [maxLen]; omega) (by omega) hbase h
set_option maxRecDepth 100000 in
set_option maxHeartbeats 8000000 in
theorem visit0 (kk : Int) (tx : ByteArray)  (O VB base : Nat) (w : World) (hO : Blk w O 47 [.slice none 0 0]) (hown : w.ownsRow base 50 8 (.slice none 0 0) 0 []) (hlt : O < base) (hbs : base ≤ w.heap.size) :
    Calls Tryz.prog 68 #[.agg #[.int .i64 kk, .int .i64 0, .string tx, .slice none 0 0, .slice none 0 0, .slice none 0 0, .slice none 0 0, .int .i64 0], .pointer (some ⟨O, 0, none⟩), .pointer (some ⟨VB, 0, none⟩)] w fun e w' => e = .returned (.tuple #[]) ∧ ∃ g cap, Blk w' O 47 [.slice (some ⟨g, 0, none⟩) 1 cap] ∧ w'.ownsRow base 50 8 (.slice (some ⟨g, 0, none⟩) 1 cap) 1 ([] ++ [.int .i64 kk, .int .i64 0, .string tx, .slice none 0 0, .slice none 0 0, .slice none 0 0, .slice none 0 0, .int .i64 0]) ∧ GrownIn (fun b => b = O ∨ Value.ownBlock (.slice none 0 0) = some b) w w' := by
  obtain ⟨W, hW⟩ : ∃ W, W = w.alloc (.cells #[.int .i64 kk, .int .i64 0, .string tx, .slice none 0 0, .slice none 0 0, .slice none 0 0, .slice none 0 0, .int .i64 0] 50) := ⟨_, rfl⟩
  obtain ⟨E, hE⟩ : ∃ E, E = w.heap.size := ⟨_, rfl⟩
  obtain ⟨V, hV⟩ : ∃ V, V = World.drew W := ⟨_, rfl⟩
  have bW : Below w.heap.size w V := by rw [hV, hW]; exact ((Below.refl _ _).alloc (Nat.le_refl _) _).drew
  have fE : Blk V E 50 [.int .i64 kk, .int .i64 0, .string tx, .slice none 0 0, .slice none 0 0, .slice none 0 0, .slice none 0 0, .int .i64 0] := by rw [hV, hW, hE]; exact Blk.new w _ _
  have HO := Lib.hid (show Blk V O 47 [.slice none 0 0] ∧ V.ownsRow base 50 8 (.slice none 0 0) 0 [] ∧ O < base ∧ base ≤ V.heap.size from ⟨hO.below bW hO.lt, own_below hown bW, hlt, Nat.le_trans hbs bW.size⟩)
  have HE := Lib.hid fE
  have HEw := Lib.hid hE
  have HW := Lib.hid bW
  have HN := Lib.hid (show some O ≠ Value.ownBlock (.slice none 0 0) ∧ Value.ownBlock (.slice none 0 0) ≠ some E from ⟨fun e => by have := (hown.lt _ e.symm).1; omega, fun e => by have := (hown.lt _ e).2; omega⟩)
  have HEO : Hid (E ≠ O) := by have := hO.lt; intro e; omega
  have SV : ∀ Y : World, Below V.heap.size V Y → Y.cell? ⟨O, 0, none⟩ = some (.slice none 0 0) ∧ Y.cell? ⟨E, 0, none⟩ = some (.int .i64 kk) ∧ Y.cell? ⟨E, 1, none⟩ = some (.int .i64 0) ∧ Y.cell? ⟨E, 2, none⟩ = some (.string tx) ∧ Y.cell? ⟨E, 3, none⟩ = some (.slice none 0 0) ∧ Y.cell? ⟨E, 4, none⟩ = some (.slice none 0 0) ∧ Y.cell? ⟨E, 5, none⟩ = some (.slice none 0 0) ∧ Y.cell? ⟨E, 6, none⟩ = some (.slice none 0 0) ∧ Y.cell? ⟨E, 7, none⟩ = some (.int .i64 0) := fun Y hY => by
    have h1 := HO.out.1.below hY HO.out.1.lt
    have h2 := HE.out.below hY HE.out.lt
    exact ⟨h1.cell 0, h2.cell 0, h2.cell 1, h2.cell 2, h2.cell 3, h2.cell 4, h2.cell 5, h2.cell 6, h2.cell 7⟩
  clear fE bW hO hown
  go_enter Tryz.func68, Tryz.ntmps68
  go_upto_region 1 with (fail)
  rw [← hW, ← hE]
  clear hE
  go_cut [3] (fun v3 wc => ∃ g cap, v3 = .pointer (some ⟨E, 0, none⟩) ∧ Hid (Blk wc O 47 [.slice (some ⟨g, 0, none⟩) 1 cap] ∧ wc.ownsRow base 50 8 (.slice (some ⟨g, 0, none⟩) 1 cap) 1 ([] ++ [.int .i64 kk, .int .i64 0, .string tx, .slice none 0 0, .slice none 0 0, .slice none 0 0, .slice none 0 0, .int .i64 0]) ∧ Blk wc E 50 [.int .i64 kk, .int .i64 0, .string tx, .slice none 0 0, .slice none 0 0, .slice none 0 0, .slice none 0 0, .int .i64 0] ∧ GrownIn (fun b => b = O ∨ Value.ownBlock (.slice none 0 0) = some b) w wc ∧ g ≠ E ∧ (Value.ownBlock (.slice none 0 0) = some g ∨ w.heap.size ≤ g)))
  case first =>
    refine wp_region_g (S := fun w' => w'.cell? ⟨O, 0, none⟩ = some (.slice none 0 0) ∧ w'.cell? ⟨E, 0, none⟩ = some (.int .i64 kk) ∧ w'.cell? ⟨E, 1, none⟩ = some (.int .i64 0) ∧ w'.cell? ⟨E, 2, none⟩ = some (.string tx) ∧ w'.cell? ⟨E, 3, none⟩ = some (.slice none 0 0) ∧ w'.cell? ⟨E, 4, none⟩ = some (.slice none 0 0) ∧ w'.cell? ⟨E, 5, none⟩ = some (.slice none 0 0) ∧ w'.cell? ⟨E, 6, none⟩ = some (.slice none 0 0) ∧ w'.cell? ⟨E, 7, none⟩ = some (.int .i64 0)) (m := 5) (by kernel_rfl) ?_
    rw [← hV]
    clear hV
    have hS := SV V (Below.refl _ _)
    repeat (first | (refine wpAnyG_take (i := 0) (v := .slice none 0 0) rfl ?_ ?_ ?_ (fun _ _ _ h => h) (Or.inl ⟨by rfl, ?_⟩) hS ?_; (· decide +kernel); (· decide +kernel); (· decide +kernel); (· (intro w' hS'; (try dsimp only at hS'); go_split_ands; go_simp))) | (refine wpAnyG_take (i := 1) (v := .agg #[.int .i64 kk, .int .i64 0, .string tx, .slice none 0 0, .slice none 0 0, .slice none 0 0, .slice none 0 0, .int .i64 0]) rfl ?_ ?_ ?_ (fun _ _ _ h => h) (Or.inl ⟨by rfl, ?_⟩) hS ?_; (· decide +kernel); (· decide +kernel); (· decide +kernel); (· (intro w' hS'; (try dsimp only at hS'); go_split_ands; go_simp))) | (refine wpAnyG_take (i := 2) (v := .int .i64 0) rfl ?_ ?_ ?_ (fun _ _ _ h => h) (Or.inl ⟨by rfl, ?_⟩) hS ?_; (· decide +kernel); (· decide +kernel); (· decide +kernel); (· (intro w' hS'; (try dsimp only at hS'); go_split_ands; go_simp))))
    refine wpAnyG_ready (rs := [3]) (by decide +kernel) (by simp) ?_
    refine AllReadyG.cons rfl (fun K hK => ?_) AllReadyG.nil
    go_simp
    obtain ⟨X2, hX2⟩ : ∃ Y, Y = V.alloc (.cells #[.int .i64 0, .int .i64 0, .string ⟨#[]⟩, .slice none 0 0, .slice none 0 0, .slice none 0 0, .slice none 0 0, .int .i64 0] 50) := ⟨_, rfl⟩
    obtain ⟨B2, hB2⟩ : ∃ B, B = V.heap.size := ⟨_, rfl⟩
    rw [← hX2, ← hB2]
    have hb2 : Below V.heap.size V X2 := by rw [hX2]; exact (Below.refl _ _).alloc (Nat.le_refl _) _
    have hS2 := SV X2 hb2
    have rd2 : Reads X2 Any 8 (some ⟨B2, 0, none⟩) 1 [.int .i64 0, .int .i64 0, .string ⟨#[]⟩, .slice none 0 0, .slice none 0 0, .slice none 0 0, .slice none 0 0, .int .i64 0] := by rw [hX2, hB2]; exact Reads.new V _ 8 1 _ Any trivial rfl
    have OW : X2.ownsRow base 50 8 (.slice none 0 0) 0 [] := own_below HO.out.2.1 hb2
    have LW : base ≤ X2.heap.size := Nat.le_trans HO.out.2.2.2 hb2.size
    have FB := Lib.hid (And.intro hb2 (And.intro OW LW))
    clear hX2 hB2 hb2 OW LW
    refine hK _ _ (fun _ => hS2) ?_
    clear hK K
    refine wpAnyG_ready (rs := [4]) (by decide +kernel) (by simp) ?_
    refine AllReadyG.cons rfl (fun K hK => ?_) AllReadyG.nil
    refine step_app_ex X2 rfl (.tmp 8) (.tmp 11) rfl FB.out.2.1 rfl rd2 rfl (by intro u hu; simp at hu; rcases hu with rfl | rfl | rfl | rfl | rfl | rfl | rfl | rfl <;> rfl) (by omega) FB.out.2.2 ?_
    intro v' X3 hown' hg' hat'
    obtain ⟨g, cap, rfl⟩ := own_succ hown'
    have hl2 := FB.out.1.size
    have hgO : O ≠ g := fun e => by have h1 := (hown'.lt g rfl).1; have h2 := HO.out.2.2.1; omega
    have hEg : E ≠ g := by
      rcases hat' with e | e
      · cases e
      · injection e with e; have := HE.out.lt; intro e2; dsimp only at e; omega
    have bO3 : Blk X3 O 47 [.slice none 0 0] := (HO.out.1.below FB.out.1 HO.out.1.lt).grown hg' HN.out.1
    have bE3 : Blk X3 E 50 [.int .i64 kk, .int .i64 0, .string tx, .slice none 0 0, .slice none 0 0, .slice none 0 0, .slice none 0 0, .int .i64 0] := (HE.out.below FB.out.1 HE.out.lt).grown hg' (fun e => HN.out.2 e.symm)
    have hS3 : X3.cell? ⟨O, 0, none⟩ = some (.slice none 0 0) ∧ X3.cell? ⟨E, 0, none⟩ = some (.int .i64 kk) ∧ X3.cell? ⟨E, 1, none⟩ = some (.int .i64 0) ∧ X3.cell? ⟨E, 2, none⟩ = some (.string tx) ∧ X3.cell? ⟨E, 3, none⟩ = some (.slice none 0 0) ∧ X3.cell? ⟨E, 4, none⟩ = some (.slice none 0 0) ∧ X3.cell? ⟨E, 5, none⟩ = some (.slice none 0 0) ∧ X3.cell? ⟨E, 6, none⟩ = some (.slice none 0 0) ∧ X3.cell? ⟨E, 7, none⟩ = some (.int .i64 0) := ⟨bO3.cell 0, bE3.cell 0, bE3.cell 1, bE3.cell 2, bE3.cell 3, bE3.cell 4, bE3.cell 5, bE3.cell 6, bE3.cell 7⟩
    have z0 : X3.cell? ⟨g, 0, none⟩ = some (.int .i64 0) := own_cell hown' rfl
    have y0f := own_frozen hown' 0
    have z1 : X3.cell? ⟨g, 1, none⟩ = some (.int .i64 0) := own_cell hown' rfl
    have y1f := own_frozen hown' 1
    have z2 : X3.cell? ⟨g, 2, none⟩ = some (.string ⟨#[]⟩) := own_cell hown' rfl
    have y2f := own_frozen hown' 2
    have z3 : X3.cell? ⟨g, 3, none⟩ = some (.slice none 0 0) := own_cell hown' rfl
    have y3f := own_frozen hown' 3
    have z4 : X3.cell? ⟨g, 4, none⟩ = some (.slice none 0 0) := own_cell hown' rfl
    have y4f := own_frozen hown' 4
    have z5 : X3.cell? ⟨g, 5, none⟩ = some (.slice none 0 0) := own_cell hown' rfl
    have y5f := own_frozen hown' 5
    have z6 : X3.cell? ⟨g, 6, none⟩ = some (.slice none 0 0) := own_cell hown' rfl
    have y6f := own_frozen hown' 6
    have z7 : X3.cell? ⟨g, 7, none⟩ = some (.int .i64 0) := own_cell hown' rfl
    have y7f := own_frozen hown' 7
    have oO := bO3.cell 0
    have oOf := bO3.frozen 0
    simp only [List.getElem?_cons_zero] at oO
    have lO := bO3.lt
    have lg := lt_of_cell z0
    have gr3 : GrownIn (fun b => b = O ∨ Value.ownBlock (.slice none 0 0) = some b) w X3 := ((GrownIn.of_below (below_next FB.out.1 HW.out)).trans (own' := fun b => Value.ownBlock (.slice none 0 0) = some b) (GrownIn.of_grown hg' (fun b h => h)) (fun b h => .inl (.inr h)))
    have hgw : Value.ownBlock (.slice none 0 0) = some g ∨ w.heap.size ≤ g := by
      rcases hat' with e | e
      · cases e
      · injection e with e; right; have := HW.out.size; dsimp only at e; omega
    have FIN := Lib.hid (And.intro hown' (And.intro bO3 (And.intro bE3 (And.intro gr3 (And.intro hgO (And.intro hEg hgw))))))
    clear hown' hg' hat' bO3 bE3 FB rd2 hl2 gr3 hgw hEg
    refine hK _ _ (fun _ => hS3) ?_
    clear hK K
    clear hS hS2
    refine wpAnyG_ready (rs := [5, 7]) (by decide +kernel) (by simp) ?_
    refine AllReadyG.cons rfl (fun K hK => ?_) (AllReadyG.cons rfl (fun K hK => ?_) AllReadyG.nil)
    · skip
      go_simp
      refine hK _ _ (fun h => absurd h (by omega)) ?_
      clear hK K
      refine wpAnyG_ready (rs := [6, 7]) (by decide +kernel) (by simp) ?_
      refine AllReadyG.cons rfl (fun K hK => ?_) (AllReadyG.cons rfl (fun K hK => ?_) AllReadyG.nil)
      · skip
        go_simp
        refine hK _ _ (fun h => absurd h (by omega)) ?_
        clear hK K
        refine wpAnyG_ready (rs := [7]) (by decide +kernel) (by simp) ?_
        refine AllReadyG.cons rfl (fun K hK => ?_) AllReadyG.nil
        go_simp
        refine hK _ _ (fun h => absurd h (by omega)) ?_
        clear hK K
        refine wpAnyG_done (by decide +kernel) ?_ _
        go_wp2_with (fail)
        go_meet
        obtain ⟨h1, h2, h3, h4, h5, h6, h7⟩ := FIN.out
        refine ⟨g, cap, rfl, ?_, ?_, ?_, ?_, h6.symm, h7⟩
        · exact (((((((((h2).far (p := ⟨g, 0, none⟩) h5 (.int .i64 kk)).far (p := ⟨g, 1, none⟩) h5 (.int .i64 0)).far (p := ⟨g, 2, none⟩) h5 (.string tx)).far (p := ⟨g, 3, none⟩) h5 (.slice none 0 0)).far (p := ⟨g, 4, none⟩) h5 (.slice none 0 0)).far (p := ⟨g, 5, none⟩) h5 (.slice none 0 0)).far (p := ⟨g, 6, none⟩) h5 (.slice none 0 0)).far (p := ⟨g, 7, none⟩) h5 (.int .i64 0)).put 0 (.slice (some ⟨g, 0, none⟩) 1 cap)
        · exact ownsRow_setCell_other (own_set (own_set (own_set (own_set (own_set (own_set (own_set (own_set h1 0 (.int .i64 kk)) 1 (.int .i64 0)) 2 (.string tx)) 3 (.slice none 0 0)) 4 (.slice none 0 0)) 5 (.slice none 0 0)) 6 (.slice none 0 0)) 7 (.int .i64 0)) (a := ⟨O, 0, none⟩) (fun e => h5 (by injection e with e; exact e.symm)) (.slice (some ⟨g, 0, none⟩) 1 cap)
        · exact (((((((((h3).far (p := ⟨g, 0, none⟩) h6 (.int .i64 kk)).far (p := ⟨g, 1, none⟩) h6 (.int .i64 0)).far (p := ⟨g, 2, none⟩) h6 (.string tx)).far (p := ⟨g, 3, none⟩) h6 (.slice none 0 0)).far (p := ⟨g, 4, none⟩) h6 (.slice none 0 0)).far (p := ⟨g, 5, none⟩) h6 (.slice none 0 0)).far (p := ⟨g, 6, none⟩) h6 (.slice none 0 0)).far (p := ⟨g, 7, none⟩) h6 (.int .i64 0)).far (p := ⟨O, 0, none⟩) HEO.out (.slice (some ⟨g, 0, none⟩) 1 cap)
        · have k4 := h4.wide (own' := fun b => (b = O ∨ Value.ownBlock (.slice none 0 0) = some b) ∨ w.heap.size ≤ b) (fun b h => .inl h)
          have hgq : (Value.ownBlock (.slice none 0 0) = some g ∨ w.heap.size ≤ g) → ((g = O ∨ Value.ownBlock (.slice none 0 0) = some g) ∨ w.heap.size ≤ g) := fun h => h.elim (fun e => .inl (.inr e)) .inr
          have k5 := (((((((((k4).set (p := ⟨g, 0, none⟩) (hgq h7) (.int .i64 kk)).set (p := ⟨g, 1, none⟩) (hgq h7) (.int .i64 0)).set (p := ⟨g, 2, none⟩) (hgq h7) (.string tx)).set (p := ⟨g, 3, none⟩) (hgq h7) (.slice none 0 0)).set (p := ⟨g, 4, none⟩) (hgq h7) (.slice none 0 0)).set (p := ⟨g, 5, none⟩) (hgq h7) (.slice none 0 0)).set (p := ⟨g, 6, none⟩) (hgq h7) (.slice none 0 0)).set (p := ⟨g, 7, none⟩) (hgq h7) (.int .i64 0)).set (p := ⟨O, 0, none⟩) (.inl (.inl rfl)) (.slice (some ⟨g, 0, none⟩) 1 cap)
          exact ⟨k5.os, k5.tape, k5.output, k5.size, fun b hb hn => k5.block b hb fun h => h.elim hn (fun e => by omega)⟩
      · skip
        go_simp
        refine hK _ _ (fun h => absurd h (by omega)) ?_
        clear hK K
        refine wpAnyG_ready (rs := [6]) (by decide +kernel) (by simp) ?_
        refine AllReadyG.cons rfl (fun K hK => ?_) AllReadyG.nil
        go_simp
        refine hK _ _ (fun h => absurd h (by omega)) ?_
        clear hK K
        refine wpAnyG_done (by decide +kernel) ?_ _
        go_wp2_with (fail)
        go_meet
        obtain ⟨h1, h2, h3, h4, h5, h6, h7⟩ := FIN.out
        refine ⟨g, cap, rfl, ?_, ?_, ?_, ?_, h6.symm, h7⟩
        · exact ((((((((h2.put 0 (.slice (some ⟨g, 0, none⟩) 1 cap)).far (p := ⟨g, 0, none⟩) h5 (.int .i64 kk)).far (p := ⟨g, 1, none⟩) h5 (.int .i64 0)).far (p := ⟨g, 2, none⟩) h5 (.string tx)).far (p := ⟨g, 3, none⟩) h5 (.slice none 0 0)).far (p := ⟨g, 4, none⟩) h5 (.slice none 0 0)).far (p := ⟨g, 5, none⟩) h5 (.slice none 0 0)).far (p := ⟨g, 6, none⟩) h5 (.slice none 0 0)).far (p := ⟨g, 7, none⟩) h5 (.int .i64 0)
        · exact (own_set (own_set (own_set (own_set (own_set (own_set (own_set (own_set (ownsRow_setCell_other h1 (a := ⟨O, 0, none⟩) (fun e => h5 (by injection e with e; exact e.symm)) (.slice (some ⟨g, 0, none⟩) 1 cap)) 0 (.int .i64 kk)) 1 (.int .i64 0)) 2 (.string tx)) 3 (.slice none 0 0)) 4 (.slice none 0 0)) 5 (.slice none 0 0)) 6 (.slice none 0 0)) 7 (.int .i64 0))
        · exact (((((((((h3).far (p := ⟨O, 0, none⟩) HEO.out (.slice (some ⟨g, 0, none⟩) 1 cap)).far (p := ⟨g, 0, none⟩) h6 (.int .i64 kk)).far (p := ⟨g, 1, none⟩) h6 (.int .i64 0)).far (p := ⟨g, 2, none⟩) h6 (.string tx)).far (p := ⟨g, 3, none⟩) h6 (.slice none 0 0)).far (p := ⟨g, 4, none⟩) h6 (.slice none 0 0)).far (p := ⟨g, 5, none⟩) h6 (.slice none 0 0)).far (p := ⟨g, 6, none⟩) h6 (.slice none 0 0)).far (p := ⟨g, 7, none⟩) h6 (.int .i64 0)
        · have k4 := h4.wide (own' := fun b => (b = O ∨ Value.ownBlock (.slice none 0 0) = some b) ∨ w.heap.size ≤ b) (fun b h => .inl h)
          have hgq : (Value.ownBlock (.slice none 0 0) = some g ∨ w.heap.size ≤ g) → ((g = O ∨ Value.ownBlock (.slice none 0 0) = some g) ∨ w.heap.size ≤ g) := fun h => h.elim (fun e => .inl (.inr e)) .inr
          have k5 := (((((((((k4).set (p := ⟨O, 0, none⟩) (.inl (.inl rfl)) (.slice (some ⟨g, 0, none⟩) 1 cap)).set (p := ⟨g, 0, none⟩) (hgq h7) (.int .i64 kk)).set (p := ⟨g, 1, none⟩) (hgq h7) (.int .i64 0)).set (p := ⟨g, 2, none⟩) (hgq h7) (.string tx)).set (p := ⟨g, 3, none⟩) (hgq h7) (.slice none 0 0)).set (p := ⟨g, 4, none⟩) (hgq h7) (.slice none 0 0)).set (p := ⟨g, 5, none⟩) (hgq h7) (.slice none 0 0)).set (p := ⟨g, 6, none⟩) (hgq h7) (.slice none 0 0)).set (p := ⟨g, 7, none⟩) (hgq h7) (.int .i64 0)
          exact ⟨k5.os, k5.tape, k5.output, k5.size, fun b hb hn => k5.block b hb fun h => h.elim hn (fun e => by omega)⟩
    · skip
      go_simp
      refine hK _ _ (fun h => absurd h (by omega)) ?_
      clear hK K
      refine wpAnyG_ready (rs := [5]) (by decide +kernel) (by simp) ?_
      refine AllReadyG.cons rfl (fun K hK => ?_) AllReadyG.nil
      go_simp
      refine hK _ _ (fun h => absurd h (by omega)) ?_
      clear hK K
      refine wpAnyG_ready (rs := [6]) (by decide +kernel) (by simp) ?_
      refine AllReadyG.cons rfl (fun K hK => ?_) AllReadyG.nil
      go_simp
      refine hK _ _ (fun h => absurd h (by omega)) ?_
      clear hK K
      refine wpAnyG_done (by decide +kernel) ?_ _
      go_wp2_with (fail)
      go_meet
      obtain ⟨h1, h2, h3, h4, h5, h6, h7⟩ := FIN.out
      refine ⟨g, cap, rfl, ?_, ?_, ?_, ?_, h6.symm, h7⟩
      · exact ((((((((h2.put 0 (.slice (some ⟨g, 0, none⟩) 1 cap)).far (p := ⟨g, 0, none⟩) h5 (.int .i64 kk)).far (p := ⟨g, 1, none⟩) h5 (.int .i64 0)).far (p := ⟨g, 2, none⟩) h5 (.string tx)).far (p := ⟨g, 3, none⟩) h5 (.slice none 0 0)).far (p := ⟨g, 4, none⟩) h5 (.slice none 0 0)).far (p := ⟨g, 5, none⟩) h5 (.slice none 0 0)).far (p := ⟨g, 6, none⟩) h5 (.slice none 0 0)).far (p := ⟨g, 7, none⟩) h5 (.int .i64 0)
      · exact (own_set (own_set (own_set (own_set (own_set (own_set (own_set (own_set (ownsRow_setCell_other h1 (a := ⟨O, 0, none⟩) (fun e => h5 (by injection e with e; exact e.symm)) (.slice (some ⟨g, 0, none⟩) 1 cap)) 0 (.int .i64 kk)) 1 (.int .i64 0)) 2 (.string tx)) 3 (.slice none 0 0)) 4 (.slice none 0 0)) 5 (.slice none 0 0)) 6 (.slice none 0 0)) 7 (.int .i64 0))
      · exact (((((((((h3).far (p := ⟨O, 0, none⟩) HEO.out (.slice (some ⟨g, 0, none⟩) 1 cap)).far (p := ⟨g, 0, none⟩) h6 (.int .i64 kk)).far (p := ⟨g, 1, none⟩) h6 (.int .i64 0)).far (p := ⟨g, 2, none⟩) h6 (.string tx)).far (p := ⟨g, 3, none⟩) h6 (.slice none 0 0)).far (p := ⟨g, 4, none⟩) h6 (.slice none 0 0)).far (p := ⟨g, 5, none⟩) h6 (.slice none 0 0)).far (p := ⟨g, 6, none⟩) h6 (.slice none 0 0)).far (p := ⟨g, 7, none⟩) h6 (.int .i64 0)
      · have k4 := h4.wide (own' := fun b => (b = O ∨ Value.ownBlock (.slice none 0 0) = some b) ∨ w.heap.size ≤ b) (fun b h => .inl h)
        have hgq : (Value.ownBlock (.slice none 0 0) = some g ∨ w.heap.size ≤ g) → ((g = O ∨ Value.ownBlock (.slice none 0 0) = some g) ∨ w.heap.size ≤ g) := fun h => h.elim (fun e => .inl (.inr e)) .inr
        have k5 := (((((((((k4).set (p := ⟨O, 0, none⟩) (.inl (.inl rfl)) (.slice (some ⟨g, 0, none⟩) 1 cap)).set (p := ⟨g, 0, none⟩) (hgq h7) (.int .i64 kk)).set (p := ⟨g, 1, none⟩) (hgq h7) (.int .i64 0)).set (p := ⟨g, 2, none⟩) (hgq h7) (.string tx)).set (p := ⟨g, 3, none⟩) (hgq h7) (.slice none 0 0)).set (p := ⟨g, 4, none⟩) (hgq h7) (.slice none 0 0)).set (p := ⟨g, 5, none⟩) (hgq h7) (.slice none 0 0)).set (p := ⟨g, 6, none⟩) (hgq h7) (.slice none 0 0)).set (p := ⟨g, 7, none⟩) (hgq h7) (.int .i64 0)
        exact ⟨k5.os, k5.tape, k5.output, k5.size, fun b hb hn => k5.block b hb fun h => h.elim hn (fun e => by omega)⟩
  case rest =>
    obtain ⟨g, cap, rfl, HC⟩ := hcut
    clear SV HO HE HN hV hW
    have e0 := HC.out.2.2.1.cell 0
    have e1 := HC.out.2.2.1.cell 1
    have e2 := HC.out.2.2.1.cell 2
    have e3 := HC.out.2.2.1.cell 3
    have e4 := HC.out.2.2.1.cell 4
    have e5 := HC.out.2.2.1.cell 5
    have e6 := HC.out.2.2.1.cell 6
    have e7 := HC.out.2.2.1.cell 7
    simp only [List.getElem?_cons_zero, List.getElem?_cons_succ] at e0 e1 e2 e3 e4 e5 e6 e7
    have lE := HC.out.2.2.1.lt
    go_wp2_with (fail)
    go_loopw [17] (fun v wr => v = .int .i64 0 ∧ wc = wr) (fun _ _ => 0)
    case atStart => exact ⟨rfl, rfl⟩
    case round =>
      obtain ⟨rfl, rfl⟩ := hrel
      go_wp2_with (fail)
      go_loopw [28] (fun v wr => v = .int .i64 0 ∧ wc = wr) (fun _ _ => 0)
      case atStart => exact ⟨rfl, rfl⟩
      case round =>
        obtain ⟨rfl, rfl⟩ := hrel
        go_wp2_with (fail)
        go_end0
        exact ⟨rfl, g, cap, HC.out.1, HC.out.2.1, HC.out.2.2.2.1⟩
set_option maxRecDepth 100000 in
set_option maxHeartbeats 8000000 in
theorem visit1 (kk : Int) (tx : ByteArray) (g0 c0 : Nat) (y0 y1 y2 y3 y4 y5 y6 y7 : Value) (O VB base : Nat) (w : World) (hO : Blk w O 47 [.slice (some ⟨g0, 0, none⟩) 1 c0]) (hown : w.ownsRow base 50 8 (.slice (some ⟨g0, 0, none⟩) 1 c0) 1 [y0, y1, y2, y3, y4, y5, y6, y7]) (hlt : O < base) (hbs : base ≤ w.heap.size) :
    Calls Tryz.prog 68 #[.agg #[.int .i64 kk, .int .i64 0, .string tx, .slice none 0 0, .slice none 0 0, .slice none 0 0, .slice none 0 0, .int .i64 0], .pointer (some ⟨O, 0, none⟩), .pointer (some ⟨VB, 0, none⟩)] w fun e w' => e = .returned (.tuple #[]) ∧ ∃ g cap, Blk w' O 47 [.slice (some ⟨g, 0, none⟩) 2 cap] ∧ w'.ownsRow base 50 8 (.slice (some ⟨g, 0, none⟩) 2 cap) 2 ([y0, y1, y2, y3, y4, y5, y6, y7] ++ [.int .i64 kk, .int .i64 0, .string tx, .slice none 0 0, .slice none 0 0, .slice none 0 0, .slice none 0 0, .int .i64 0]) ∧ GrownIn (fun b => b = O ∨ Value.ownBlock (.slice (some ⟨g0, 0, none⟩) 1 c0) = some b) w w' := by
  obtain ⟨W, hW⟩ : ∃ W, W = w.alloc (.cells #[.int .i64 kk, .int .i64 0, .string tx, .slice none 0 0, .slice none 0 0, .slice none 0 0, .slice none 0 0, .int .i64 0] 50) := ⟨_, rfl⟩
  obtain ⟨E, hE⟩ : ∃ E, E = w.heap.size := ⟨_, rfl⟩
  obtain ⟨V, hV⟩ : ∃ V, V = World.drew W := ⟨_, rfl⟩
  have bW : Below w.heap.size w V := by rw [hV, hW]; exact ((Below.refl _ _).alloc (Nat.le_refl _) _).drew
  have fE : Blk V E 50 [.int .i64 kk, .int .i64 0, .string tx, .slice none 0 0, .slice none 0 0, .slice none 0 0, .slice none 0 0, .int .i64 0] := by rw [hV, hW, hE]; exact Blk.new w _ _
  have HO := Lib.hid (show Blk V O 47 [.slice (some ⟨g0, 0, none⟩) 1 c0] ∧ V.ownsRow base 50 8 (.slice (some ⟨g0, 0, none⟩) 1 c0) 1 [y0, y1, y2, y3, y4, y5, y6, y7] ∧ O < base ∧ base ≤ V.heap.size from ⟨hO.below bW hO.lt, own_below hown bW, hlt, Nat.le_trans hbs bW.size⟩)
  have HE := Lib.hid fE
  have HEw := Lib.hid hE
  have HW := Lib.hid bW
  have HN := Lib.hid (show some O ≠ Value.ownBlock (.slice (some ⟨g0, 0, none⟩) 1 c0) ∧ Value.ownBlock (.slice (some ⟨g0, 0, none⟩) 1 c0) ≠ some E from ⟨fun e => by have := (hown.lt _ e.symm).1; omega, fun e => by have := (hown.lt _ e).2; omega⟩)
  have HEO : Hid (E ≠ O) := by have := hO.lt; intro e; omega
  have SV : ∀ Y : World, Below V.heap.size V Y → Y.cell? ⟨O, 0, none⟩ = some (.slice (some ⟨g0, 0, none⟩) 1 c0) ∧ Y.cell? ⟨E, 0, none⟩ = some (.int .i64 kk) ∧ Y.cell? ⟨E, 1, none⟩ = some (.int .i64 0) ∧ Y.cell? ⟨E, 2, none⟩ = some (.string tx) ∧ Y.cell? ⟨E, 3, none⟩ = some (.slice none 0 0) ∧ Y.cell? ⟨E, 4, none⟩ = some (.slice none 0 0) ∧ Y.cell? ⟨E, 5, none⟩ = some (.slice none 0 0) ∧ Y.cell? ⟨E, 6, none⟩ = some (.slice none 0 0) ∧ Y.cell? ⟨E, 7, none⟩ = some (.int .i64 0) := fun Y hY => by
    have h1 := HO.out.1.below hY HO.out.1.lt
    have h2 := HE.out.below hY HE.out.lt
    exact ⟨h1.cell 0, h2.cell 0, h2.cell 1, h2.cell 2, h2.cell 3, h2.cell 4, h2.cell 5, h2.cell 6, h2.cell 7⟩
  clear fE bW hO hown
  go_enter Tryz.func68, Tryz.ntmps68
  go_upto_region 1 with (fail)
  rw [← hW, ← hE]
  clear hE
  go_cut [3] (fun v3 wc => ∃ g cap, v3 = .pointer (some ⟨E, 0, none⟩) ∧ Hid (Blk wc O 47 [.slice (some ⟨g, 0, none⟩) 2 cap] ∧ wc.ownsRow base 50 8 (.slice (some ⟨g, 0, none⟩) 2 cap) 2 ([y0, y1, y2, y3, y4, y5, y6, y7] ++ [.int .i64 kk, .int .i64 0, .string tx, .slice none 0 0, .slice none 0 0, .slice none 0 0, .slice none 0 0, .int .i64 0]) ∧ Blk wc E 50 [.int .i64 kk, .int .i64 0, .string tx, .slice none 0 0, .slice none 0 0, .slice none 0 0, .slice none 0 0, .int .i64 0] ∧ GrownIn (fun b => b = O ∨ Value.ownBlock (.slice (some ⟨g0, 0, none⟩) 1 c0) = some b) w wc ∧ g ≠ E ∧ (Value.ownBlock (.slice (some ⟨g0, 0, none⟩) 1 c0) = some g ∨ w.heap.size ≤ g)))
  case first =>
    refine wp_region_g (S := fun w' => w'.cell? ⟨O, 0, none⟩ = some (.slice (some ⟨g0, 0, none⟩) 1 c0) ∧ w'.cell? ⟨E, 0, none⟩ = some (.int .i64 kk) ∧ w'.cell? ⟨E, 1, none⟩ = some (.int .i64 0) ∧ w'.cell? ⟨E, 2, none⟩ = some (.string tx) ∧ w'.cell? ⟨E, 3, none⟩ = some (.slice none 0 0) ∧ w'.cell? ⟨E, 4, none⟩ = some (.slice none 0 0) ∧ w'.cell? ⟨E, 5, none⟩ = some (.slice none 0 0) ∧ w'.cell? ⟨E, 6, none⟩ = some (.slice none 0 0) ∧ w'.cell? ⟨E, 7, none⟩ = some (.int .i64 0)) (m := 5) (by kernel_rfl) ?_
    rw [← hV]
    clear hV
    have hS := SV V (Below.refl _ _)
    repeat (first | (refine wpAnyG_take (i := 0) (v := .slice (some ⟨g0, 0, none⟩) 1 c0) rfl ?_ ?_ ?_ (fun _ _ _ h => h) (Or.inl ⟨by rfl, ?_⟩) hS ?_; (· decide +kernel); (· decide +kernel); (· decide +kernel); (· (intro w' hS'; (try dsimp only at hS'); go_split_ands; go_simp))) | (refine wpAnyG_take (i := 1) (v := .agg #[.int .i64 kk, .int .i64 0, .string tx, .slice none 0 0, .slice none 0 0, .slice none 0 0, .slice none 0 0, .int .i64 0]) rfl ?_ ?_ ?_ (fun _ _ _ h => h) (Or.inl ⟨by rfl, ?_⟩) hS ?_; (· decide +kernel); (· decide +kernel); (· decide +kernel); (· (intro w' hS'; (try dsimp only at hS'); go_split_ands; go_simp))) | (refine wpAnyG_take (i := 2) (v := .int .i64 1) rfl ?_ ?_ ?_ (fun _ _ _ h => h) (Or.inl ⟨by rfl, ?_⟩) hS ?_; (· decide +kernel); (· decide +kernel); (· decide +kernel); (· (intro w' hS'; (try dsimp only at hS'); go_split_ands; go_simp))))
    refine wpAnyG_ready (rs := [3]) (by decide +kernel) (by simp) ?_
    refine AllReadyG.cons rfl (fun K hK => ?_) AllReadyG.nil
    go_simp
    obtain ⟨X2, hX2⟩ : ∃ Y, Y = V.alloc (.cells #[.int .i64 0, .int .i64 0, .string ⟨#[]⟩, .slice none 0 0, .slice none 0 0, .slice none 0 0, .slice none 0 0, .int .i64 0] 50) := ⟨_, rfl⟩
    obtain ⟨B2, hB2⟩ : ∃ B, B = V.heap.size := ⟨_, rfl⟩
    rw [← hX2, ← hB2]
    have hb2 : Below V.heap.size V X2 := by rw [hX2]; exact (Below.refl _ _).alloc (Nat.le_refl _) _
    have hS2 := SV X2 hb2
    have rd2 : Reads X2 Any 8 (some ⟨B2, 0, none⟩) 1 [.int .i64 0, .int .i64 0, .string ⟨#[]⟩, .slice none 0 0, .slice none 0 0, .slice none 0 0, .slice none 0 0, .int .i64 0] := by rw [hX2, hB2]; exact Reads.new V _ 8 1 _ Any trivial rfl
    have OW : X2.ownsRow base 50 8 (.slice (some ⟨g0, 0, none⟩) 1 c0) 1 [y0, y1, y2, y3, y4, y5, y6, y7] := own_below HO.out.2.1 hb2
    have LW : base ≤ X2.heap.size := Nat.le_trans HO.out.2.2.2 hb2.size
    have FB := Lib.hid (And.intro hb2 (And.intro OW LW))
    clear hX2 hB2 hb2 OW LW
    refine hK _ _ (fun _ => hS2) ?_
    clear hK K
    refine wpAnyG_ready (rs := [4]) (by decide +kernel) (by simp) ?_
    refine AllReadyG.cons rfl (fun K hK => ?_) AllReadyG.nil
    refine step_app_ex X2 rfl (.tmp 8) (.tmp 11) rfl FB.out.2.1 rfl rd2 rfl (by intro u hu; simp at hu; rcases hu with rfl | rfl | rfl | rfl | rfl | rfl | rfl | rfl <;> rfl) (by omega) FB.out.2.2 ?_
    intro v' X3 hown' hg' hat'
    obtain ⟨g, cap, rfl⟩ := own_succ hown'
    have hl2 := FB.out.1.size
    have hgO : O ≠ g := fun e => by have h1 := (hown'.lt g rfl).1; have h2 := HO.out.2.2.1; omega
    have hEg : E ≠ g := by
      rcases hat' with e | e
      · exact fun e2 => HN.out.2 (by rw [e2]; exact e.symm)
      · injection e with e; have := HE.out.lt; intro e2; dsimp only at e; omega
    have bO3 : Blk X3 O 47 [.slice (some ⟨g0, 0, none⟩) 1 c0] := (HO.out.1.below FB.out.1 HO.out.1.lt).grown hg' HN.out.1
    have bE3 : Blk X3 E 50 [.int .i64 kk, .int .i64 0, .string tx, .slice none 0 0, .slice none 0 0, .slice none 0 0, .slice none 0 0, .int .i64 0] := (HE.out.below FB.out.1 HE.out.lt).grown hg' (fun e => HN.out.2 e.symm)
    have hS3 : X3.cell? ⟨O, 0, none⟩ = some (.slice (some ⟨g0, 0, none⟩) 1 c0) ∧ X3.cell? ⟨E, 0, none⟩ = some (.int .i64 kk) ∧ X3.cell? ⟨E, 1, none⟩ = some (.int .i64 0) ∧ X3.cell? ⟨E, 2, none⟩ = some (.string tx) ∧ X3.cell? ⟨E, 3, none⟩ = some (.slice none 0 0) ∧ X3.cell? ⟨E, 4, none⟩ = some (.slice none 0 0) ∧ X3.cell? ⟨E, 5, none⟩ = some (.slice none 0 0) ∧ X3.cell? ⟨E, 6, none⟩ = some (.slice none 0 0) ∧ X3.cell? ⟨E, 7, none⟩ = some (.int .i64 0) := ⟨bO3.cell 0, bE3.cell 0, bE3.cell 1, bE3.cell 2, bE3.cell 3, bE3.cell 4, bE3.cell 5, bE3.cell 6, bE3.cell 7⟩
    have z0 : X3.cell? ⟨g, 8, none⟩ = some (.int .i64 0) := own_cell hown' rfl
    have y0f := own_frozen hown' 8
    have z1 : X3.cell? ⟨g, 9, none⟩ = some (.int .i64 0) := own_cell hown' rfl
    have y1f := own_frozen hown' 9
    have z2 : X3.cell? ⟨g, 10, none⟩ = some (.string ⟨#[]⟩) := own_cell hown' rfl
    have y2f := own_frozen hown' 10
    have z3 : X3.cell? ⟨g, 11, none⟩ = some (.slice none 0 0) := own_cell hown' rfl
    have y3f := own_frozen hown' 11
    have z4 : X3.cell? ⟨g, 12, none⟩ = some (.slice none 0 0) := own_cell hown' rfl
    have y4f := own_frozen hown' 12
    have z5 : X3.cell? ⟨g, 13, none⟩ = some (.slice none 0 0) := own_cell hown' rfl
    have y5f := own_frozen hown' 13
    have z6 : X3.cell? ⟨g, 14, none⟩ = some (.slice none 0 0) := own_cell hown' rfl
    have y6f := own_frozen hown' 14
    have z7 : X3.cell? ⟨g, 15, none⟩ = some (.int .i64 0) := own_cell hown' rfl
    have y7f := own_frozen hown' 15
    have oO := bO3.cell 0
    have oOf := bO3.frozen 0
    simp only [List.getElem?_cons_zero] at oO
    have lO := bO3.lt
    have lg := lt_of_cell z0
    have gr3 : GrownIn (fun b => b = O ∨ Value.ownBlock (.slice (some ⟨g0, 0, none⟩) 1 c0) = some b) w X3 := ((GrownIn.of_below (below_next FB.out.1 HW.out)).trans (own' := fun b => Value.ownBlock (.slice (some ⟨g0, 0, none⟩) 1 c0) = some b) (GrownIn.of_grown hg' (fun b h => h)) (fun b h => .inl (.inr h)))
    have hgw : Value.ownBlock (.slice (some ⟨g0, 0, none⟩) 1 c0) = some g ∨ w.heap.size ≤ g := by
      rcases hat' with e | e
      · exact .inl (e.symm.trans rfl)
      · injection e with e; right; have := HW.out.size; dsimp only at e; omega
    have FIN := Lib.hid (And.intro hown' (And.intro bO3 (And.intro bE3 (And.intro gr3 (And.intro hgO (And.intro hEg hgw))))))
    clear hown' hg' hat' bO3 bE3 FB rd2 hl2 gr3 hgw hEg
    refine hK _ _ (fun _ => hS3) ?_
    clear hK K
    clear hS hS2
    refine wpAnyG_ready (rs := [5, 7]) (by decide +kernel) (by simp) ?_
    refine AllReadyG.cons rfl (fun K hK => ?_) (AllReadyG.cons rfl (fun K hK => ?_) AllReadyG.nil)
    · skip
      go_simp
      refine hK _ _ (fun h => absurd h (by omega)) ?_
      clear hK K
      refine wpAnyG_ready (rs := [6, 7]) (by decide +kernel) (by simp) ?_
      refine AllReadyG.cons rfl (fun K hK => ?_) (AllReadyG.cons rfl (fun K hK => ?_) AllReadyG.nil)
      · skip
        go_simp
        refine hK _ _ (fun h => absurd h (by omega)) ?_
        clear hK K
        refine wpAnyG_ready (rs := [7]) (by decide +kernel) (by simp) ?_
        refine AllReadyG.cons rfl (fun K hK => ?_) AllReadyG.nil
        go_simp
        refine hK _ _ (fun h => absurd h (by omega)) ?_
        clear hK K
        refine wpAnyG_done (by decide +kernel) ?_ _
        go_wp2_with (fail)
        go_meet
        obtain ⟨h1, h2, h3, h4, h5, h6, h7⟩ := FIN.out
        refine ⟨g, cap, rfl, ?_, ?_, ?_, ?_, h6.symm, h7⟩
        · exact (((((((((h2).far (p := ⟨g, 8, none⟩) h5 (.int .i64 kk)).far (p := ⟨g, 9, none⟩) h5 (.int .i64 0)).far (p := ⟨g, 10, none⟩) h5 (.string tx)).far (p := ⟨g, 11, none⟩) h5 (.slice none 0 0)).far (p := ⟨g, 12, none⟩) h5 (.slice none 0 0)).far (p := ⟨g, 13, none⟩) h5 (.slice none 0 0)).far (p := ⟨g, 14, none⟩) h5 (.slice none 0 0)).far (p := ⟨g, 15, none⟩) h5 (.int .i64 0)).put 0 (.slice (some ⟨g, 0, none⟩) 2 cap)
        · exact ownsRow_setCell_other (own_set (own_set (own_set (own_set (own_set (own_set (own_set (own_set h1 8 (.int .i64 kk)) 9 (.int .i64 0)) 10 (.string tx)) 11 (.slice none 0 0)) 12 (.slice none 0 0)) 13 (.slice none 0 0)) 14 (.slice none 0 0)) 15 (.int .i64 0)) (a := ⟨O, 0, none⟩) (fun e => h5 (by injection e with e; exact e.symm)) (.slice (some ⟨g, 0, none⟩) 2 cap)
        · exact (((((((((h3).far (p := ⟨g, 8, none⟩) h6 (.int .i64 kk)).far (p := ⟨g, 9, none⟩) h6 (.int .i64 0)).far (p := ⟨g, 10, none⟩) h6 (.string tx)).far (p := ⟨g, 11, none⟩) h6 (.slice none 0 0)).far (p := ⟨g, 12, none⟩) h6 (.slice none 0 0)).far (p := ⟨g, 13, none⟩) h6 (.slice none 0 0)).far (p := ⟨g, 14, none⟩) h6 (.slice none 0 0)).far (p := ⟨g, 15, none⟩) h6 (.int .i64 0)).far (p := ⟨O, 0, none⟩) HEO.out (.slice (some ⟨g, 0, none⟩) 2 cap)
        · have k4 := h4.wide (own' := fun b => (b = O ∨ Value.ownBlock (.slice (some ⟨g0, 0, none⟩) 1 c0) = some b) ∨ w.heap.size ≤ b) (fun b h => .inl h)
          have hgq : (Value.ownBlock (.slice (some ⟨g0, 0, none⟩) 1 c0) = some g ∨ w.heap.size ≤ g) → ((g = O ∨ Value.ownBlock (.slice (some ⟨g0, 0, none⟩) 1 c0) = some g) ∨ w.heap.size ≤ g) := fun h => h.elim (fun e => .inl (.inr e)) .inr
          have k5 := (((((((((k4).set (p := ⟨g, 8, none⟩) (hgq h7) (.int .i64 kk)).set (p := ⟨g, 9, none⟩) (hgq h7) (.int .i64 0)).set (p := ⟨g, 10, none⟩) (hgq h7) (.string tx)).set (p := ⟨g, 11, none⟩) (hgq h7) (.slice none 0 0)).set (p := ⟨g, 12, none⟩) (hgq h7) (.slice none 0 0)).set (p := ⟨g, 13, none⟩) (hgq h7) (.slice none 0 0)).set (p := ⟨g, 14, none⟩) (hgq h7) (.slice none 0 0)).set (p := ⟨g, 15, none⟩) (hgq h7) (.int .i64 0)).set (p := ⟨O, 0, none⟩) (.inl (.inl rfl)) (.slice (some ⟨g, 0, none⟩) 2 cap)
          exact ⟨k5.os, k5.tape, k5.output, k5.size, fun b hb hn => k5.block b hb fun h => h.elim hn (fun e => by omega)⟩
      · skip
        go_simp
        refine hK _ _ (fun h => absurd h (by omega)) ?_
        clear hK K
        refine wpAnyG_ready (rs := [6]) (by decide +kernel) (by simp) ?_
        refine AllReadyG.cons rfl (fun K hK => ?_) AllReadyG.nil
        go_simp
        refine hK _ _ (fun h => absurd h (by omega)) ?_
        clear hK K
        refine wpAnyG_done (by decide +kernel) ?_ _
        go_wp2_with (fail)
        go_meet
        obtain ⟨h1, h2, h3, h4, h5, h6, h7⟩ := FIN.out
        refine ⟨g, cap, rfl, ?_, ?_, ?_, ?_, h6.symm, h7⟩
        · exact ((((((((h2.put 0 (.slice (some ⟨g, 0, none⟩) 2 cap)).far (p := ⟨g, 8, none⟩) h5 (.int .i64 kk)).far (p := ⟨g, 9, none⟩) h5 (.int .i64 0)).far (p := ⟨g, 10, none⟩) h5 (.string tx)).far (p := ⟨g, 11, none⟩) h5 (.slice none 0 0)).far (p := ⟨g, 12, none⟩) h5 (.slice none 0 0)).far (p := ⟨g, 13, none⟩) h5 (.slice none 0 0)).far (p := ⟨g, 14, none⟩) h5 (.slice none 0 0)).far (p := ⟨g, 15, none⟩) h5 (.int .i64 0)
        · exact (own_set (own_set (own_set (own_set (own_set (own_set (own_set (own_set (ownsRow_setCell_other h1 (a := ⟨O, 0, none⟩) (fun e => h5 (by injection e with e; exact e.symm)) (.slice (some ⟨g, 0, none⟩) 2 cap)) 8 (.int .i64 kk)) 9 (.int .i64 0)) 10 (.string tx)) 11 (.slice none 0 0)) 12 (.slice none 0 0)) 13 (.slice none 0 0)) 14 (.slice none 0 0)) 15 (.int .i64 0))
        · exact (((((((((h3).far (p := ⟨O, 0, none⟩) HEO.out (.slice (some ⟨g, 0, none⟩) 2 cap)).far (p := ⟨g, 8, none⟩) h6 (.int .i64 kk)).far (p := ⟨g, 9, none⟩) h6 (.int .i64 0)).far (p := ⟨g, 10, none⟩) h6 (.string tx)).far (p := ⟨g, 11, none⟩) h6 (.slice none 0 0)).far (p := ⟨g, 12, none⟩) h6 (.slice none 0 0)).far (p := ⟨g, 13, none⟩) h6 (.slice none 0 0)).far (p := ⟨g, 14, none⟩) h6 (.slice none 0 0)).far (p := ⟨g, 15, none⟩) h6 (.int .i64 0)
        · have k4 := h4.wide (own' := fun b => (b = O ∨ Value.ownBlock (.slice (some ⟨g0, 0, none⟩) 1 c0) = some b) ∨ w.heap.size ≤ b) (fun b h => .inl h)
          have hgq : (Value.ownBlock (.slice (some ⟨g0, 0, none⟩) 1 c0) = some g ∨ w.heap.size ≤ g) → ((g = O ∨ Value.ownBlock (.slice (some ⟨g0, 0, none⟩) 1 c0) = some g) ∨ w.heap.size ≤ g) := fun h => h.elim (fun e => .inl (.inr e)) .inr
          have k5 := (((((((((k4).set (p := ⟨O, 0, none⟩) (.inl (.inl rfl)) (.slice (some ⟨g, 0, none⟩) 2 cap)).set (p := ⟨g, 8, none⟩) (hgq h7) (.int .i64 kk)).set (p := ⟨g, 9, none⟩) (hgq h7) (.int .i64 0)).set (p := ⟨g, 10, none⟩) (hgq h7) (.string tx)).set (p := ⟨g, 11, none⟩) (hgq h7) (.slice none 0 0)).set (p := ⟨g, 12, none⟩) (hgq h7) (.slice none 0 0)).set (p := ⟨g, 13, none⟩) (hgq h7) (.slice none 0 0)).set (p := ⟨g, 14, none⟩) (hgq h7) (.slice none 0 0)).set (p := ⟨g, 15, none⟩) (hgq h7) (.int .i64 0)
          exact ⟨k5.os, k5.tape, k5.output, k5.size, fun b hb hn => k5.block b hb fun h => h.elim hn (fun e => by omega)⟩
    · skip
      go_simp
      refine hK _ _ (fun h => absurd h (by omega)) ?_
      clear hK K
      refine wpAnyG_ready (rs := [5]) (by decide +kernel) (by simp) ?_
      refine AllReadyG.cons rfl (fun K hK => ?_) AllReadyG.nil
      go_simp
      refine hK _ _ (fun h => absurd h (by omega)) ?_
      clear hK K
      refine wpAnyG_ready (rs := [6]) (by decide +kernel) (by simp) ?_
      refine AllReadyG.cons rfl (fun K hK => ?_) AllReadyG.nil
      go_simp
      refine hK _ _ (fun h => absurd h (by omega)) ?_
      clear hK K
      refine wpAnyG_done (by decide +kernel) ?_ _
      go_wp2_with (fail)
      go_meet
      obtain ⟨h1, h2, h3, h4, h5, h6, h7⟩ := FIN.out
      refine ⟨g, cap, rfl, ?_, ?_, ?_, ?_, h6.symm, h7⟩
      · exact ((((((((h2.put 0 (.slice (some ⟨g, 0, none⟩) 2 cap)).far (p := ⟨g, 8, none⟩) h5 (.int .i64 kk)).far (p := ⟨g, 9, none⟩) h5 (.int .i64 0)).far (p := ⟨g, 10, none⟩) h5 (.string tx)).far (p := ⟨g, 11, none⟩) h5 (.slice none 0 0)).far (p := ⟨g, 12, none⟩) h5 (.slice none 0 0)).far (p := ⟨g, 13, none⟩) h5 (.slice none 0 0)).far (p := ⟨g, 14, none⟩) h5 (.slice none 0 0)).far (p := ⟨g, 15, none⟩) h5 (.int .i64 0)
      · exact (own_set (own_set (own_set (own_set (own_set (own_set (own_set (own_set (ownsRow_setCell_other h1 (a := ⟨O, 0, none⟩) (fun e => h5 (by injection e with e; exact e.symm)) (.slice (some ⟨g, 0, none⟩) 2 cap)) 8 (.int .i64 kk)) 9 (.int .i64 0)) 10 (.string tx)) 11 (.slice none 0 0)) 12 (.slice none 0 0)) 13 (.slice none 0 0)) 14 (.slice none 0 0)) 15 (.int .i64 0))
      · exact (((((((((h3).far (p := ⟨O, 0, none⟩) HEO.out (.slice (some ⟨g, 0, none⟩) 2 cap)).far (p := ⟨g, 8, none⟩) h6 (.int .i64 kk)).far (p := ⟨g, 9, none⟩) h6 (.int .i64 0)).far (p := ⟨g, 10, none⟩) h6 (.string tx)).far (p := ⟨g, 11, none⟩) h6 (.slice none 0 0)).far (p := ⟨g, 12, none⟩) h6 (.slice none 0 0)).far (p := ⟨g, 13, none⟩) h6 (.slice none 0 0)).far (p := ⟨g, 14, none⟩) h6 (.slice none 0 0)).far (p := ⟨g, 15, none⟩) h6 (.int .i64 0)
      · have k4 := h4.wide (own' := fun b => (b = O ∨ Value.ownBlock (.slice (some ⟨g0, 0, none⟩) 1 c0) = some b) ∨ w.heap.size ≤ b) (fun b h => .inl h)
        have hgq : (Value.ownBlock (.slice (some ⟨g0, 0, none⟩) 1 c0) = some g ∨ w.heap.size ≤ g) → ((g = O ∨ Value.ownBlock (.slice (some ⟨g0, 0, none⟩) 1 c0) = some g) ∨ w.heap.size ≤ g) := fun h => h.elim (fun e => .inl (.inr e)) .inr
        have k5 := (((((((((k4).set (p := ⟨O, 0, none⟩) (.inl (.inl rfl)) (.slice (some ⟨g, 0, none⟩) 2 cap)).set (p := ⟨g, 8, none⟩) (hgq h7) (.int .i64 kk)).set (p := ⟨g, 9, none⟩) (hgq h7) (.int .i64 0)).set (p := ⟨g, 10, none⟩) (hgq h7) (.string tx)).set (p := ⟨g, 11, none⟩) (hgq h7) (.slice none 0 0)).set (p := ⟨g, 12, none⟩) (hgq h7) (.slice none 0 0)).set (p := ⟨g, 13, none⟩) (hgq h7) (.slice none 0 0)).set (p := ⟨g, 14, none⟩) (hgq h7) (.slice none 0 0)).set (p := ⟨g, 15, none⟩) (hgq h7) (.int .i64 0)
        exact ⟨k5.os, k5.tape, k5.output, k5.size, fun b hb hn => k5.block b hb fun h => h.elim hn (fun e => by omega)⟩
  case rest =>
    obtain ⟨g, cap, rfl, HC⟩ := hcut
    clear SV HO HE HN hV hW
    have e0 := HC.out.2.2.1.cell 0
    have e1 := HC.out.2.2.1.cell 1
    have e2 := HC.out.2.2.1.cell 2
    have e3 := HC.out.2.2.1.cell 3
    have e4 := HC.out.2.2.1.cell 4
    have e5 := HC.out.2.2.1.cell 5
    have e6 := HC.out.2.2.1.cell 6
    have e7 := HC.out.2.2.1.cell 7
    simp only [List.getElem?_cons_zero, List.getElem?_cons_succ] at e0 e1 e2 e3 e4 e5 e6 e7
    have lE := HC.out.2.2.1.lt
    go_wp2_with (fail)
    go_loopw [17] (fun v wr => v = .int .i64 0 ∧ wc = wr) (fun _ _ => 0)
    case atStart => exact ⟨rfl, rfl⟩
    case round =>
      obtain ⟨rfl, rfl⟩ := hrel
      go_wp2_with (fail)
      go_loopw [28] (fun v wr => v = .int .i64 0 ∧ wc = wr) (fun _ _ => 0)
      case atStart => exact ⟨rfl, rfl⟩
      case round =>
        obtain ⟨rfl, rfl⟩ := hrel
        go_wp2_with (fail)
        go_end0
        exact ⟨rfl, g, cap, HC.out.1, HC.out.2.1, HC.out.2.2.2.1⟩
set_option maxRecDepth 100000 in
set_option maxHeartbeats 8000000 in
theorem visitC (kk : Int) (tx : ByteArray) (A : Option Addr) (c : Nat) (O VB base : Nat) (w : World) (hO : Blk w O 47 [.slice none 0 0]) (hown : w.ownsRow base 50 8 (.slice none 0 0) 0 []) (hlt : O < base) (hbs : base ≤ w.heap.size) (hv : w.cell? ⟨VB, 0, none⟩ = some (.func (.func 68) #[] #[.pointer (some ⟨O, 0, none⟩), .pointer (some ⟨VB, 0, none⟩)])) (hvb : VB < base ∧ VB ≠ O) (k1 : Int) (t1 : ByteArray) (hx : Reads w (fun b => b ≠ O) 8 A 1 [.int .i64 k1, .int .i64 0, .string t1, .slice none 0 0, .slice none 0 0, .slice none 0 0, .slice none 0 0, .int .i64 0]) :
    Calls Tryz.prog 68 #[.agg #[.int .i64 kk, .int .i64 0, .string tx, .slice none 0 0, .slice none 0 0, .slice A 1 c, .slice none 0 0, .int .i64 0], .pointer (some ⟨O, 0, none⟩), .pointer (some ⟨VB, 0, none⟩)] w fun e w' => e = .returned (.tuple #[]) ∧ ∃ g cap, Blk w' O 47 [.slice (some ⟨g, 0, none⟩) 2 cap] ∧ w'.ownsRow base 50 8 (.slice (some ⟨g, 0, none⟩) 2 cap) 2 ([.int .i64 kk, .int .i64 0, .string tx, .slice none 0 0, .slice none 0 0, .slice A 1 c, .slice none 0 0, .int .i64 0] ++ [.int .i64 k1, .int .i64 0, .string t1, .slice none 0 0, .slice none 0 0, .slice none 0 0, .slice none 0 0, .int .i64 0]) ∧ GrownIn (fun b => b = O ∨ Value.ownBlock (.slice none 0 0) = some b) w w' := by
  obtain ⟨W, hW⟩ : ∃ W, W = w.alloc (.cells #[.int .i64 kk, .int .i64 0, .string tx, .slice none 0 0, .slice none 0 0, .slice A 1 c, .slice none 0 0, .int .i64 0] 50) := ⟨_, rfl⟩
  obtain ⟨E, hE⟩ : ∃ E, E = w.heap.size := ⟨_, rfl⟩
  obtain ⟨V, hV⟩ : ∃ V, V = World.drew W := ⟨_, rfl⟩
  have bW : Below w.heap.size w V := by rw [hV, hW]; exact ((Below.refl _ _).alloc (Nat.le_refl _) _).drew
  have fE : Blk V E 50 [.int .i64 kk, .int .i64 0, .string tx, .slice none 0 0, .slice none 0 0, .slice A 1 c, .slice none 0 0, .int .i64 0] := by rw [hV, hW, hE]; exact Blk.new w _ _
  have HO := Lib.hid (show Blk V O 47 [.slice none 0 0] ∧ V.ownsRow base 50 8 (.slice none 0 0) 0 [] ∧ O < base ∧ base ≤ V.heap.size from ⟨hO.below bW hO.lt, own_below hown bW, hlt, Nat.le_trans hbs bW.size⟩)
  have HE := Lib.hid fE
  have HEw := Lib.hid hE
  have HW := Lib.hid bW
  have HN := Lib.hid (show some O ≠ Value.ownBlock (.slice none 0 0) ∧ Value.ownBlock (.slice none 0 0) ≠ some E from ⟨fun e => by have := (hown.lt _ e.symm).1; omega, fun e => by have := (hown.lt _ e).2; omega⟩)
  have HEO : Hid (E ≠ O) := by have := hO.lt; intro e; omega
  have SV : ∀ Y : World, Below V.heap.size V Y → Y.cell? ⟨O, 0, none⟩ = some (.slice none 0 0) ∧ Y.cell? ⟨E, 0, none⟩ = some (.int .i64 kk) ∧ Y.cell? ⟨E, 1, none⟩ = some (.int .i64 0) ∧ Y.cell? ⟨E, 2, none⟩ = some (.string tx) ∧ Y.cell? ⟨E, 3, none⟩ = some (.slice none 0 0) ∧ Y.cell? ⟨E, 4, none⟩ = some (.slice none 0 0) ∧ Y.cell? ⟨E, 5, none⟩ = some (.slice A 1 c) ∧ Y.cell? ⟨E, 6, none⟩ = some (.slice none 0 0) ∧ Y.cell? ⟨E, 7, none⟩ = some (.int .i64 0) := fun Y hY => by
    have h1 := HO.out.1.below hY HO.out.1.lt
    have h2 := HE.out.below hY HE.out.lt
    exact ⟨h1.cell 0, h2.cell 0, h2.cell 1, h2.cell 2, h2.cell 3, h2.cell 4, h2.cell 5, h2.cell 6, h2.cell 7⟩
  have HX := Lib.hid (And.intro hv (And.intro hvb hx))
  clear hv hx hvb
  clear fE bW hO hown
  go_enter Tryz.func68, Tryz.ntmps68
  go_upto_region 1 with (fail)
  rw [← hW, ← hE]
  clear hE
  go_cut [3] (fun v3 wc => ∃ g cap, v3 = .pointer (some ⟨E, 0, none⟩) ∧ Hid (Blk wc O 47 [.slice (some ⟨g, 0, none⟩) 1 cap] ∧ wc.ownsRow base 50 8 (.slice (some ⟨g, 0, none⟩) 1 cap) 1 ([] ++ [.int .i64 kk, .int .i64 0, .string tx, .slice none 0 0, .slice none 0 0, .slice A 1 c, .slice none 0 0, .int .i64 0]) ∧ Blk wc E 50 [.int .i64 kk, .int .i64 0, .string tx, .slice none 0 0, .slice none 0 0, .slice A 1 c, .slice none 0 0, .int .i64 0] ∧ GrownIn (fun b => b = O ∨ Value.ownBlock (.slice none 0 0) = some b) w wc ∧ g ≠ E ∧ (Value.ownBlock (.slice none 0 0) = some g ∨ w.heap.size ≤ g)))
  case first =>
    refine wp_region_g (S := fun w' => w'.cell? ⟨O, 0, none⟩ = some (.slice none 0 0) ∧ w'.cell? ⟨E, 0, none⟩ = some (.int .i64 kk) ∧ w'.cell? ⟨E, 1, none⟩ = some (.int .i64 0) ∧ w'.cell? ⟨E, 2, none⟩ = some (.string tx) ∧ w'.cell? ⟨E, 3, none⟩ = some (.slice none 0 0) ∧ w'.cell? ⟨E, 4, none⟩ = some (.slice none 0 0) ∧ w'.cell? ⟨E, 5, none⟩ = some (.slice A 1 c) ∧ w'.cell? ⟨E, 6, none⟩ = some (.slice none 0 0) ∧ w'.cell? ⟨E, 7, none⟩ = some (.int .i64 0)) (m := 5) (by kernel_rfl) ?_
    rw [← hV]
    clear hV
    have hS := SV V (Below.refl _ _)
    repeat (first | (refine wpAnyG_take (i := 0) (v := .slice none 0 0) rfl ?_ ?_ ?_ (fun _ _ _ h => h) (Or.inl ⟨by rfl, ?_⟩) hS ?_; (· decide +kernel); (· decide +kernel); (· decide +kernel); (· (intro w' hS'; (try dsimp only at hS'); go_split_ands; go_simp))) | (refine wpAnyG_take (i := 1) (v := .agg #[.int .i64 kk, .int .i64 0, .string tx, .slice none 0 0, .slice none 0 0, .slice A 1 c, .slice none 0 0, .int .i64 0]) rfl ?_ ?_ ?_ (fun _ _ _ h => h) (Or.inl ⟨by rfl, ?_⟩) hS ?_; (· decide +kernel); (· decide +kernel); (· decide +kernel); (· (intro w' hS'; (try dsimp only at hS'); go_split_ands; go_simp))) | (refine wpAnyG_take (i := 2) (v := .int .i64 0) rfl ?_ ?_ ?_ (fun _ _ _ h => h) (Or.inl ⟨by rfl, ?_⟩) hS ?_; (· decide +kernel); (· decide +kernel); (· decide +kernel); (· (intro w' hS'; (try dsimp only at hS'); go_split_ands; go_simp))))
    refine wpAnyG_ready (rs := [3]) (by decide +kernel) (by simp) ?_
    refine AllReadyG.cons rfl (fun K hK => ?_) AllReadyG.nil
    go_simp
    obtain ⟨X2, hX2⟩ : ∃ Y, Y = V.alloc (.cells #[.int .i64 0, .int .i64 0, .string ⟨#[]⟩, .slice none 0 0, .slice none 0 0, .slice none 0 0, .slice none 0 0, .int .i64 0] 50) := ⟨_, rfl⟩
    obtain ⟨B2, hB2⟩ : ∃ B, B = V.heap.size := ⟨_, rfl⟩
    rw [← hX2, ← hB2]
    have hb2 : Below V.heap.size V X2 := by rw [hX2]; exact (Below.refl _ _).alloc (Nat.le_refl _) _
    have hS2 := SV X2 hb2
    have rd2 : Reads X2 Any 8 (some ⟨B2, 0, none⟩) 1 [.int .i64 0, .int .i64 0, .string ⟨#[]⟩, .slice none 0 0, .slice none 0 0, .slice none 0 0, .slice none 0 0, .int .i64 0] := by rw [hX2, hB2]; exact Reads.new V _ 8 1 _ Any trivial rfl
    have OW : X2.ownsRow base 50 8 (.slice none 0 0) 0 [] := own_below HO.out.2.1 hb2
    have LW : base ≤ X2.heap.size := Nat.le_trans HO.out.2.2.2 hb2.size
    have FB := Lib.hid (And.intro hb2 (And.intro OW LW))
    clear hX2 hB2 hb2 OW LW
    refine hK _ _ (fun _ => hS2) ?_
    clear hK K
    refine wpAnyG_ready (rs := [4]) (by decide +kernel) (by simp) ?_
    refine AllReadyG.cons rfl (fun K hK => ?_) AllReadyG.nil
    refine step_app_ex X2 rfl (.tmp 8) (.tmp 11) rfl FB.out.2.1 rfl rd2 rfl (by intro u hu; simp at hu; rcases hu with rfl | rfl | rfl | rfl | rfl | rfl | rfl | rfl <;> rfl) (by omega) FB.out.2.2 ?_
    intro v' X3 hown' hg' hat'
    obtain ⟨g, cap, rfl⟩ := own_succ hown'
    have hl2 := FB.out.1.size
    have hgO : O ≠ g := fun e => by have h1 := (hown'.lt g rfl).1; have h2 := HO.out.2.2.1; omega
    have hEg : E ≠ g := by
      rcases hat' with e | e
      · cases e
      · injection e with e; have := HE.out.lt; intro e2; dsimp only at e; omega
    have bO3 : Blk X3 O 47 [.slice none 0 0] := (HO.out.1.below FB.out.1 HO.out.1.lt).grown hg' HN.out.1
    have bE3 : Blk X3 E 50 [.int .i64 kk, .int .i64 0, .string tx, .slice none 0 0, .slice none 0 0, .slice A 1 c, .slice none 0 0, .int .i64 0] := (HE.out.below FB.out.1 HE.out.lt).grown hg' (fun e => HN.out.2 e.symm)
    have hS3 : X3.cell? ⟨O, 0, none⟩ = some (.slice none 0 0) ∧ X3.cell? ⟨E, 0, none⟩ = some (.int .i64 kk) ∧ X3.cell? ⟨E, 1, none⟩ = some (.int .i64 0) ∧ X3.cell? ⟨E, 2, none⟩ = some (.string tx) ∧ X3.cell? ⟨E, 3, none⟩ = some (.slice none 0 0) ∧ X3.cell? ⟨E, 4, none⟩ = some (.slice none 0 0) ∧ X3.cell? ⟨E, 5, none⟩ = some (.slice A 1 c) ∧ X3.cell? ⟨E, 6, none⟩ = some (.slice none 0 0) ∧ X3.cell? ⟨E, 7, none⟩ = some (.int .i64 0) := ⟨bO3.cell 0, bE3.cell 0, bE3.cell 1, bE3.cell 2, bE3.cell 3, bE3.cell 4, bE3.cell 5, bE3.cell 6, bE3.cell 7⟩
    have z0 : X3.cell? ⟨g, 0, none⟩ = some (.int .i64 0) := own_cell hown' rfl
    have y0f := own_frozen hown' 0
    have z1 : X3.cell? ⟨g, 1, none⟩ = some (.int .i64 0) := own_cell hown' rfl
    have y1f := own_frozen hown' 1
    have z2 : X3.cell? ⟨g, 2, none⟩ = some (.string ⟨#[]⟩) := own_cell hown' rfl
    have y2f := own_frozen hown' 2
    have z3 : X3.cell? ⟨g, 3, none⟩ = some (.slice none 0 0) := own_cell hown' rfl
    have y3f := own_frozen hown' 3
    have z4 : X3.cell? ⟨g, 4, none⟩ = some (.slice none 0 0) := own_cell hown' rfl
    have y4f := own_frozen hown' 4
    have z5 : X3.cell? ⟨g, 5, none⟩ = some (.slice none 0 0) := own_cell hown' rfl
    have y5f := own_frozen hown' 5
    have z6 : X3.cell? ⟨g, 6, none⟩ = some (.slice none 0 0) := own_cell hown' rfl
    have y6f := own_frozen hown' 6
    have z7 : X3.cell? ⟨g, 7, none⟩ = some (.int .i64 0) := own_cell hown' rfl
    have y7f := own_frozen hown' 7
    have oO := bO3.cell 0
    have oOf := bO3.frozen 0
    simp only [List.getElem?_cons_zero] at oO
    have lO := bO3.lt
    have lg := lt_of_cell z0
    have gr3 : GrownIn (fun b => b = O ∨ Value.ownBlock (.slice none 0 0) = some b) w X3 := ((GrownIn.of_below (below_next FB.out.1 HW.out)).trans (own' := fun b => Value.ownBlock (.slice none 0 0) = some b) (GrownIn.of_grown hg' (fun b h => h)) (fun b h => .inl (.inr h)))
    have hgw : Value.ownBlock (.slice none 0 0) = some g ∨ w.heap.size ≤ g := by
      rcases hat' with e | e
      · cases e
      · injection e with e; right; have := HW.out.size; dsimp only at e; omega
    have FIN := Lib.hid (And.intro hown' (And.intro bO3 (And.intro bE3 (And.intro gr3 (And.intro hgO (And.intro hEg hgw))))))
    clear hown' hg' hat' bO3 bE3 FB rd2 hl2 gr3 hgw hEg
    refine hK _ _ (fun _ => hS3) ?_
    clear hK K
    clear hS hS2
    refine wpAnyG_ready (rs := [5, 7]) (by decide +kernel) (by simp) ?_
    refine AllReadyG.cons rfl (fun K hK => ?_) (AllReadyG.cons rfl (fun K hK => ?_) AllReadyG.nil)
    · skip
      go_simp
      refine hK _ _ (fun h => absurd h (by omega)) ?_
      clear hK K
      refine wpAnyG_ready (rs := [6, 7]) (by decide +kernel) (by simp) ?_
      refine AllReadyG.cons rfl (fun K hK => ?_) (AllReadyG.cons rfl (fun K hK => ?_) AllReadyG.nil)
      · skip
        go_simp
        refine hK _ _ (fun h => absurd h (by omega)) ?_
        clear hK K
        refine wpAnyG_ready (rs := [7]) (by decide +kernel) (by simp) ?_
        refine AllReadyG.cons rfl (fun K hK => ?_) AllReadyG.nil
        go_simp
        refine hK _ _ (fun h => absurd h (by omega)) ?_
        clear hK K
        refine wpAnyG_done (by decide +kernel) ?_ _
        go_wp2_with (fail)
        go_meet
        obtain ⟨h1, h2, h3, h4, h5, h6, h7⟩ := FIN.out
        refine ⟨g, cap, rfl, ?_, ?_, ?_, ?_, h6.symm, h7⟩
        · exact (((((((((h2).far (p := ⟨g, 0, none⟩) h5 (.int .i64 kk)).far (p := ⟨g, 1, none⟩) h5 (.int .i64 0)).far (p := ⟨g, 2, none⟩) h5 (.string tx)).far (p := ⟨g, 3, none⟩) h5 (.slice none 0 0)).far (p := ⟨g, 4, none⟩) h5 (.slice none 0 0)).far (p := ⟨g, 5, none⟩) h5 (.slice A 1 c)).far (p := ⟨g, 6, none⟩) h5 (.slice none 0 0)).far (p := ⟨g, 7, none⟩) h5 (.int .i64 0)).put 0 (.slice (some ⟨g, 0, none⟩) 1 cap)
        · exact ownsRow_setCell_other (own_set (own_set (own_set (own_set (own_set (own_set (own_set (own_set h1 0 (.int .i64 kk)) 1 (.int .i64 0)) 2 (.string tx)) 3 (.slice none 0 0)) 4 (.slice none 0 0)) 5 (.slice A 1 c)) 6 (.slice none 0 0)) 7 (.int .i64 0)) (a := ⟨O, 0, none⟩) (fun e => h5 (by injection e with e; exact e.symm)) (.slice (some ⟨g, 0, none⟩) 1 cap)
        · exact (((((((((h3).far (p := ⟨g, 0, none⟩) h6 (.int .i64 kk)).far (p := ⟨g, 1, none⟩) h6 (.int .i64 0)).far (p := ⟨g, 2, none⟩) h6 (.string tx)).far (p := ⟨g, 3, none⟩) h6 (.slice none 0 0)).far (p := ⟨g, 4, none⟩) h6 (.slice none 0 0)).far (p := ⟨g, 5, none⟩) h6 (.slice A 1 c)).far (p := ⟨g, 6, none⟩) h6 (.slice none 0 0)).far (p := ⟨g, 7, none⟩) h6 (.int .i64 0)).far (p := ⟨O, 0, none⟩) HEO.out (.slice (some ⟨g, 0, none⟩) 1 cap)
        · have k4 := h4.wide (own' := fun b => (b = O ∨ Value.ownBlock (.slice none 0 0) = some b) ∨ w.heap.size ≤ b) (fun b h => .inl h)
          have hgq : (Value.ownBlock (.slice none 0 0) = some g ∨ w.heap.size ≤ g) → ((g = O ∨ Value.ownBlock (.slice none 0 0) = some g) ∨ w.heap.size ≤ g) := fun h => h.elim (fun e => .inl (.inr e)) .inr
          have k5 := (((((((((k4).set (p := ⟨g, 0, none⟩) (hgq h7) (.int .i64 kk)).set (p := ⟨g, 1, none⟩) (hgq h7) (.int .i64 0)).set (p := ⟨g, 2, none⟩) (hgq h7) (.string tx)).set (p := ⟨g, 3, none⟩) (hgq h7) (.slice none 0 0)).set (p := ⟨g, 4, none⟩) (hgq h7) (.slice none 0 0)).set (p := ⟨g, 5, none⟩) (hgq h7) (.slice A 1 c)).set (p := ⟨g, 6, none⟩) (hgq h7) (.slice none 0 0)).set (p := ⟨g, 7, none⟩) (hgq h7) (.int .i64 0)).set (p := ⟨O, 0, none⟩) (.inl (.inl rfl)) (.slice (some ⟨g, 0, none⟩) 1 cap)
          exact ⟨k5.os, k5.tape, k5.output, k5.size, fun b hb hn => k5.block b hb fun h => h.elim hn (fun e => by omega)⟩
      · skip
        go_simp
        refine hK _ _ (fun h => absurd h (by omega)) ?_
        clear hK K
        refine wpAnyG_ready (rs := [6]) (by decide +kernel) (by simp) ?_
        refine AllReadyG.cons rfl (fun K hK => ?_) AllReadyG.nil
        go_simp
        refine hK _ _ (fun h => absurd h (by omega)) ?_
        clear hK K
        refine wpAnyG_done (by decide +kernel) ?_ _
        go_wp2_with (fail)
        go_meet
        obtain ⟨h1, h2, h3, h4, h5, h6, h7⟩ := FIN.out
        refine ⟨g, cap, rfl, ?_, ?_, ?_, ?_, h6.symm, h7⟩
        · exact ((((((((h2.put 0 (.slice (some ⟨g, 0, none⟩) 1 cap)).far (p := ⟨g, 0, none⟩) h5 (.int .i64 kk)).far (p := ⟨g, 1, none⟩) h5 (.int .i64 0)).far (p := ⟨g, 2, none⟩) h5 (.string tx)).far (p := ⟨g, 3, none⟩) h5 (.slice none 0 0)).far (p := ⟨g, 4, none⟩) h5 (.slice none 0 0)).far (p := ⟨g, 5, none⟩) h5 (.slice A 1 c)).far (p := ⟨g, 6, none⟩) h5 (.slice none 0 0)).far (p := ⟨g, 7, none⟩) h5 (.int .i64 0)
        · exact (own_set (own_set (own_set (own_set (own_set (own_set (own_set (own_set (ownsRow_setCell_other h1 (a := ⟨O, 0, none⟩) (fun e => h5 (by injection e with e; exact e.symm)) (.slice (some ⟨g, 0, none⟩) 1 cap)) 0 (.int .i64 kk)) 1 (.int .i64 0)) 2 (.string tx)) 3 (.slice none 0 0)) 4 (.slice none 0 0)) 5 (.slice A 1 c)) 6 (.slice none 0 0)) 7 (.int .i64 0))
        · exact (((((((((h3).far (p := ⟨O, 0, none⟩) HEO.out (.slice (some ⟨g, 0, none⟩) 1 cap)).far (p := ⟨g, 0, none⟩) h6 (.int .i64 kk)).far (p := ⟨g, 1, none⟩) h6 (.int .i64 0)).far (p := ⟨g, 2, none⟩) h6 (.string tx)).far (p := ⟨g, 3, none⟩) h6 (.slice none 0 0)).far (p := ⟨g, 4, none⟩) h6 (.slice none 0 0)).far (p := ⟨g, 5, none⟩) h6 (.slice A 1 c)).far (p := ⟨g, 6, none⟩) h6 (.slice none 0 0)).far (p := ⟨g, 7, none⟩) h6 (.int .i64 0)
        · have k4 := h4.wide (own' := fun b => (b = O ∨ Value.ownBlock (.slice none 0 0) = some b) ∨ w.heap.size ≤ b) (fun b h => .inl h)
          have hgq : (Value.ownBlock (.slice none 0 0) = some g ∨ w.heap.size ≤ g) → ((g = O ∨ Value.ownBlock (.slice none 0 0) = some g) ∨ w.heap.size ≤ g) := fun h => h.elim (fun e => .inl (.inr e)) .inr
          have k5 := (((((((((k4).set (p := ⟨O, 0, none⟩) (.inl (.inl rfl)) (.slice (some ⟨g, 0, none⟩) 1 cap)).set (p := ⟨g, 0, none⟩) (hgq h7) (.int .i64 kk)).set (p := ⟨g, 1, none⟩) (hgq h7) (.int .i64 0)).set (p := ⟨g, 2, none⟩) (hgq h7) (.string tx)).set (p := ⟨g, 3, none⟩) (hgq h7) (.slice none 0 0)).set (p := ⟨g, 4, none⟩) (hgq h7) (.slice none 0 0)).set (p := ⟨g, 5, none⟩) (hgq h7) (.slice A 1 c)).set (p := ⟨g, 6, none⟩) (hgq h7) (.slice none 0 0)).set (p := ⟨g, 7, none⟩) (hgq h7) (.int .i64 0)
          exact ⟨k5.os, k5.tape, k5.output, k5.size, fun b hb hn => k5.block b hb fun h => h.elim hn (fun e => by omega)⟩
    · skip
      go_simp
      refine hK _ _ (fun h => absurd h (by omega)) ?_
      clear hK K
      refine wpAnyG_ready (rs := [5]) (by decide +kernel) (by simp) ?_
      refine AllReadyG.cons rfl (fun K hK => ?_) AllReadyG.nil
      go_simp
      refine hK _ _ (fun h => absurd h (by omega)) ?_
      clear hK K
      refine wpAnyG_ready (rs := [6]) (by decide +kernel) (by simp) ?_
      refine AllReadyG.cons rfl (fun K hK => ?_) AllReadyG.nil
      go_simp
      refine hK _ _ (fun h => absurd h (by omega)) ?_
      clear hK K
      refine wpAnyG_done (by decide +kernel) ?_ _
      go_wp2_with (fail)
      go_meet
      obtain ⟨h1, h2, h3, h4, h5, h6, h7⟩ := FIN.out
      refine ⟨g, cap, rfl, ?_, ?_, ?_, ?_, h6.symm, h7⟩
      · exact ((((((((h2.put 0 (.slice (some ⟨g, 0, none⟩) 1 cap)).far (p := ⟨g, 0, none⟩) h5 (.int .i64 kk)).far (p := ⟨g, 1, none⟩) h5 (.int .i64 0)).far (p := ⟨g, 2, none⟩) h5 (.string tx)).far (p := ⟨g, 3, none⟩) h5 (.slice none 0 0)).far (p := ⟨g, 4, none⟩) h5 (.slice none 0 0)).far (p := ⟨g, 5, none⟩) h5 (.slice A 1 c)).far (p := ⟨g, 6, none⟩) h5 (.slice none 0 0)).far (p := ⟨g, 7, none⟩) h5 (.int .i64 0)
      · exact (own_set (own_set (own_set (own_set (own_set (own_set (own_set (own_set (ownsRow_setCell_other h1 (a := ⟨O, 0, none⟩) (fun e => h5 (by injection e with e; exact e.symm)) (.slice (some ⟨g, 0, none⟩) 1 cap)) 0 (.int .i64 kk)) 1 (.int .i64 0)) 2 (.string tx)) 3 (.slice none 0 0)) 4 (.slice none 0 0)) 5 (.slice A 1 c)) 6 (.slice none 0 0)) 7 (.int .i64 0))
      · exact (((((((((h3).far (p := ⟨O, 0, none⟩) HEO.out (.slice (some ⟨g, 0, none⟩) 1 cap)).far (p := ⟨g, 0, none⟩) h6 (.int .i64 kk)).far (p := ⟨g, 1, none⟩) h6 (.int .i64 0)).far (p := ⟨g, 2, none⟩) h6 (.string tx)).far (p := ⟨g, 3, none⟩) h6 (.slice none 0 0)).far (p := ⟨g, 4, none⟩) h6 (.slice none 0 0)).far (p := ⟨g, 5, none⟩) h6 (.slice A 1 c)).far (p := ⟨g, 6, none⟩) h6 (.slice none 0 0)).far (p := ⟨g, 7, none⟩) h6 (.int .i64 0)
      · have k4 := h4.wide (own' := fun b => (b = O ∨ Value.ownBlock (.slice none 0 0) = some b) ∨ w.heap.size ≤ b) (fun b h => .inl h)
        have hgq : (Value.ownBlock (.slice none 0 0) = some g ∨ w.heap.size ≤ g) → ((g = O ∨ Value.ownBlock (.slice none 0 0) = some g) ∨ w.heap.size ≤ g) := fun h => h.elim (fun e => .inl (.inr e)) .inr
        have k5 := (((((((((k4).set (p := ⟨O, 0, none⟩) (.inl (.inl rfl)) (.slice (some ⟨g, 0, none⟩) 1 cap)).set (p := ⟨g, 0, none⟩) (hgq h7) (.int .i64 kk)).set (p := ⟨g, 1, none⟩) (hgq h7) (.int .i64 0)).set (p := ⟨g, 2, none⟩) (hgq h7) (.string tx)).set (p := ⟨g, 3, none⟩) (hgq h7) (.slice none 0 0)).set (p := ⟨g, 4, none⟩) (hgq h7) (.slice none 0 0)).set (p := ⟨g, 5, none⟩) (hgq h7) (.slice A 1 c)).set (p := ⟨g, 6, none⟩) (hgq h7) (.slice none 0 0)).set (p := ⟨g, 7, none⟩) (hgq h7) (.int .i64 0)
        exact ⟨k5.os, k5.tape, k5.output, k5.size, fun b hb hn => k5.block b hb fun h => h.elim hn (fun e => by omega)⟩
  case rest =>
    obtain ⟨g, cap, rfl, HC⟩ := hcut
    clear SV HO HE HN hV hW
    have e0 := HC.out.2.2.1.cell 0
    have e1 := HC.out.2.2.1.cell 1
    have e2 := HC.out.2.2.1.cell 2
    have e3 := HC.out.2.2.1.cell 3
    have e4 := HC.out.2.2.1.cell 4
    have e5 := HC.out.2.2.1.cell 5
    have e6 := HC.out.2.2.1.cell 6
    have e7 := HC.out.2.2.1.cell 7
    simp only [List.getElem?_cons_zero, List.getElem?_cons_succ] at e0 e1 e2 e3 e4 e5 e6 e7
    have lE := HC.out.2.2.1.lt
    have hvc : wc.cell? ⟨VB, 0, none⟩ = some (.func (.func 68) #[] #[.pointer (some ⟨O, 0, none⟩), .pointer (some ⟨VB, 0, none⟩)]) := (Same.of_in (D := fun b => b = VB) HC.out.2.2.2.1 (fun b hb _ h => h.elim (fun e => HX.out.2.1.2 (hb.symm.trans e)) (fun e => by cases e))).cell rfl HX.out.1
    have lvb := lt_of_cell hvc
    have RX := HX.out.2.2.keep (Same.of_in HC.out.2.2.2.1 (fun b hb _ h => h.elim hb (fun e => by cases e)))
    obtain ⟨bx, ox, rfl, _, hcx⟩ := RX.2 (by omega)
    have x0 : wc.cell? ⟨bx, ox, none⟩ = some (.int .i64 k1) := hcx 0 _ rfl
    have x1 : wc.cell? ⟨bx, ox + 1, none⟩ = some (.int .i64 0) := hcx 1 _ rfl
    have x2 : wc.cell? ⟨bx, ox + 2, none⟩ = some (.string t1) := hcx 2 _ rfl
    have x3 : wc.cell? ⟨bx, ox + 3, none⟩ = some (.slice none 0 0) := hcx 3 _ rfl
    have x4 : wc.cell? ⟨bx, ox + 4, none⟩ = some (.slice none 0 0) := hcx 4 _ rfl
    have x5 : wc.cell? ⟨bx, ox + 5, none⟩ = some (.slice none 0 0) := hcx 5 _ rfl
    have x6 : wc.cell? ⟨bx, ox + 6, none⟩ = some (.slice none 0 0) := hcx 6 _ rfl
    have x7 : wc.cell? ⟨bx, ox + 7, none⟩ = some (.int .i64 0) := hcx 7 _ rfl
    have lx := lt_of_cell x0
    have VC := Lib.hid (fun (U : World) (hU : Below wc.heap.size wc U) => visit1 k1 t1 g cap (.int .i64 kk) (.int .i64 0) (.string tx) (.slice none 0 0) (.slice none 0 0) (.slice (some ⟨bx, ox, none⟩) 1 c) (.slice none 0 0) (.int .i64 0) O VB base U (HC.out.1.below hU HC.out.1.lt) (own_below HC.out.2.1 hU) hlt (Nat.le_trans hbs (Nat.le_trans HC.out.2.2.2.1.size hU.size)))
    clear hlt hbs RX hcx HX
    go_wp2_with (fail)
    go_loopw [17] (fun v wr => (v = .int .i64 0 ∧ wc = wr) ∨ (v = .int .i64 1 ∧ Hid (Blk wr E 50 [.int .i64 kk, .int .i64 0, .string tx, .slice none 0 0, .slice none 0 0, .slice (some ⟨bx, ox, none⟩) 1 c, .slice none 0 0, .int .i64 0] ∧ ∃ g cap, Blk wr O 47 [.slice (some ⟨g, 0, none⟩) 2 cap] ∧ wr.ownsRow base 50 8 (.slice (some ⟨g, 0, none⟩) 2 cap) 2 ([.int .i64 kk, .int .i64 0, .string tx, .slice none 0 0, .slice none 0 0, .slice (some ⟨bx, ox, none⟩) 1 c, .slice none 0 0, .int .i64 0] ++ [.int .i64 k1, .int .i64 0, .string t1, .slice none 0 0, .slice none 0 0, .slice none 0 0, .slice none 0 0, .int .i64 0]) ∧ GrownIn (fun b => b = O ∨ Value.ownBlock (.slice none 0 0) = some b) w wr))) (fun v _ => 1 - (intOf v).toNat)
    case atStart => exact .inl ⟨rfl, rfl⟩
    case round =>
      rcases hrel with ⟨rfl, rfl⟩ | ⟨rfl, HF⟩
      · go_wp2_with (fail)
        refine (VC.out _ ((Below.refl _ _).alloc (Nat.le_refl _) _)).mono ?_
        rintro e W5 ⟨rfl, g5, cap5, b5, o5, gr5⟩
        have FIN := Lib.hid (And.intro b5 (And.intro o5 gr5))
        clear b5 o5 gr5
        go_wp2_with (fail)
        refine ⟨.inr ⟨by go_num, ?_⟩, by simp [intOf]⟩
        obtain ⟨b5, o5, gr5⟩ := FIN.out
        have gr6 := (GrownIn.of_below (own := fun b => b = O ∨ b = g) ((Below.refl wc.heap.size wc).alloc (Nat.le_refl _) _)).trans gr5 (fun b h => .inl (h.imp id (fun e => by injection e with e; exact e.symm)))
        have hEO := HEO.out
        refine ⟨(gr6.block E lE (fun h => h.elim hEO (fun e => HC.out.2.2.2.2.1 e.symm))).trans HC.out.2.2.1, g5, cap5, b5, o5, HC.out.2.2.2.1.trans gr6 (fun b h => h.elim (fun e => .inl (.inl e)) (fun e => ?_))⟩
        subst e
        exact HC.out.2.2.2.2.2.elim (fun e => by cases e) .inr
      · have e6 := HF.out.1.cell 6
        simp only [List.getElem?_cons_zero, List.getElem?_cons_succ] at e6
        have lE2 := HF.out.1.lt
        clear x0 x1 x2 x3 x4 x5 x6 x7 e0 e1 e2 e3 e4 e5 lx lvb hvc lE
        go_wp2_with (fail)
        go_loopw [28] (fun v w1 => v = .int .i64 0 ∧ wr = w1) (fun _ _ => 0)
        case atStart => exact ⟨rfl, rfl⟩
        case round =>
          obtain ⟨rfl, rfl⟩ := hrel
          go_wp2_with (fail)
          go_end0
          obtain ⟨_, g6, cap6, h1, h2, h3⟩ := HF.out
          exact ⟨rfl, g6, cap6, h1, h2, h3⟩
end Go.Proofs.YtaealapgebbnlaaGreatDoor
