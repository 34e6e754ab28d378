/- Contract of copies.Actor at an actor without a body. -/
import Derived.Test.YtoddjdajjmcliaaJRnExpr
import Derived.Test.YtoddjdajjmcliaaHeldG
set_option linter.unusedVariables false
namespace Go.Proofs.Ytoddjdajjmcliaa
open Go.RowKit Go.Mem Go.Sh Go.Maps Go.Val
/-- the cells of an actor without a body -/
def bcell (An : Option Addr) (k cn : Nat) (At : Option Addr) (ct mk : Nat) (Am : Option Addr) (cm : Nat) : List Value := [str [65], .slice An k cn, .slice At k ct, .int .i64 (mk : Nat), str [], .slice Am 0 cm, .int .i64 0, .int .i64 0, .string ⟨#[]⟩, .slice none 0 0, .slice none 0 0, .slice none 0 0, .slice none 0 0, .int .i64 0]
/-- what is handed back: an actor without a body -/
structure BodyAt (w : World) (D : Nat → Prop) (An : Option Addr) (k cn : Nat) (At : Option Addr) (ct mk : Nat) (Am : Option Addr) (cm : Nat) (N : List Nm) (T : List Ty) : Prop where
  nm : k = N.length ∧ k ≤ 1000 ∧ k ≤ cn ∧ cn ≤ maxLen
  nr : Reads w D 1 An k (strs N)
  ts : TsAt 4 w D At k ct T
  ms : TyAt 4 w D mk [] Am 0 cm (oneT mk)
def CopyAPost (w : World) (k mk : Nat) (N : List Nm) (T : List Ty) (e : Ending) (w' : World) : Prop := Below w.heap.size w w' ∧ ∃ An cn At ct Am cm, e = .returned (.agg (bcell An k cn At ct mk Am cm).toArray) ∧ BodyAt w' (fun b => w.heap.size ≤ b) An k cn At ct mk Am cm N T
theorem strs_one (N : List Nm) : ∀ u ∈ strs N, u.oneCell' = true := fun u hu => by
  obtain ⟨x, _, rfl⟩ := List.mem_map.1 hu
  rfl
set_option maxRecDepth 100000 in
set_option maxHeartbeats 8000000 in
theorem copyA_any (w : World) (ad : Addr) (k cn : Nat) (At : Option Addr) (ct mk : Nat) (N : List Nm) (T : List Ty) (hk : k = N.length) (hk0 : k ≤ 1000) (hr : Reads w Any 1 (some ad) k (strs N)) (ht : TsAt 4 w Any At k ct T) (hq : 1 ≤ mk ∧ mk ≤ 4) :
    Calls Try.prog 58 #[.agg #[str [65], .slice (some ad) k cn, .slice At k ct, .int .i64 (mk : Nat), str [], .slice none 0 0, .int .i64 0, .int .i64 0, .string ⟨#[]⟩, .slice none 0 0, .slice none 0 0, .slice none 0 0, .slice none 0 0, .int .i64 0]] w (CopyAPost w k mk N T) := by
  have HI := Lib.hid (And.intro hk (And.intro hr (And.intro ht hq)))
  clear hk hr ht hq
  obtain ⟨W2, hW2⟩ : ∃ W2, W2 = (w.alloc (.cells #[str [65], .slice (some ad) k cn, .slice At k ct, .int .i64 (mk : Nat), str [], .slice none 0 0, .int .i64 0, .int .i64 0, .string ⟨#[]⟩, .slice none 0 0, .slice none 0 0, .slice none 0 0, .slice none 0 0, .int .i64 0] 40)).alloc (.cells #[.string ⟨#[]⟩, .slice none 0 0, .slice none 0 0, .int .i64 0, .string ⟨#[]⟩, .slice none 0 0, .int .i64 0, .int .i64 0, .string ⟨#[]⟩, .slice none 0 0, .slice none 0 0, .slice none 0 0, .slice none 0 0, .int .i64 0] 40) := ⟨_, rfl⟩
  have hb2 : Below w.heap.size w W2 := by rw [hW2]; exact ((Below.refl _ _).alloc (Nat.le_refl _) _).alloc (by simp) _
  have f1 : Blk W2 w.heap.size 40 [str [65], .slice (some ad) k cn, .slice At k ct, .int .i64 (mk : Nat), str [], .slice none 0 0, .int .i64 0, .int .i64 0, .string ⟨#[]⟩, .slice none 0 0, .slice none 0 0, .slice none 0 0, .slice none 0 0, .int .i64 0] := by rw [hW2]; exact (Blk.new _ _ _).alloc _
  have f2 : Blk W2 (w.heap.size + 1) 40 [.string ⟨#[]⟩, .slice none 0 0, .slice none 0 0, .int .i64 0, .string ⟨#[]⟩, .slice none 0 0, .int .i64 0, .int .i64 0, .string ⟨#[]⟩, .slice none 0 0, .slice none 0 0, .slice none 0 0, .slice none 0 0, .int .i64 0] := by
    rw [hW2]
    have h := Blk.new (w.alloc (.cells #[str [65], .slice (some ad) k cn, .slice At k ct, .int .i64 (mk : Nat), str [], .slice none 0 0, .int .i64 0, .int .i64 0, .string ⟨#[]⟩, .slice none 0 0, .slice none 0 0, .slice none 0 0, .slice none 0 0, .int .i64 0] 40)) 40 [.string ⟨#[]⟩, .slice none 0 0, .slice none 0 0, .int .i64 0, .string ⟨#[]⟩, .slice none 0 0, .int .i64 0, .int .i64 0, .string ⟨#[]⟩, .slice none 0 0, .slice none 0 0, .slice none 0 0, .slice none 0 0, .int .i64 0]
    rwa [show (w.alloc (.cells #[str [65], .slice (some ad) k cn, .slice At k ct, .int .i64 (mk : Nat), str [], .slice none 0 0, .int .i64 0, .int .i64 0, .string ⟨#[]⟩, .slice none 0 0, .slice none 0 0, .slice none 0 0, .slice none 0 0, .int .i64 0] 40)).heap.size = w.heap.size + 1 by simp] at h
  have CN := Lib.hid (cloneS_any ad k cn (strs N) Any W2 (HI.out.2.1.keep (Same.any hb2)) (strs_one N) hk0)
  have HT2 := Lib.hid (HI.out.2.2.1.keep (Same.any hb2))
  have HB := Lib.hid (And.intro hb2 (And.intro f1 f2))
  have c1 := f1.cell 1
  have l1 := f1.lt
  simp only [List.getElem?_cons_zero, List.getElem?_cons_succ] at c1
  clear hb2 f1 f2
  go_enter Try.func58, Try.ntmps58
  go_upto_region 1 with (fail)
  rw [← hW2]
  clear hW2
  go_upto_region 2 with (go_at_call 76; refine CN.out.mono ?_; rintro e w3 ⟨A1, c1', rfl, hown, hb3⟩; have H3 := Lib.hid (And.intro hown hb3); have q3 := (HB.out.2.1.below hb3 HB.out.2.1.lt).frozen 1; have lq := (HB.out.2.1.below hb3 HB.out.2.1.lt).lt; have p3 := (HB.out.2.1.below hb3 HB.out.2.1.lt).cell 1; simp only [List.getElem?_cons_zero, List.getElem?_cons_succ] at p3; clear hown hb3)
  clear c1 l1 CN
  obtain ⟨W4, hW4⟩ : ∃ W4, W4 = w3.setCell ⟨w.heap.size, 1, none⟩ (.slice A1 k c1') := ⟨_, rfl⟩
  obtain ⟨TB, hTB⟩ : ∃ TB, TB = w.heap.size := ⟨_, rfl⟩
  obtain ⟨RB, hRB⟩ : ∃ RB, RB = w.heap.size + 1 := ⟨_, rfl⟩
  have hlt2 : w.heap.size + 1 < W2.heap.size := HB.out.2.2.lt
  have h24 : Below w.heap.size W2 W4 := by rw [hW4]; exact (H3.out.2.mono HB.out.1.size).setCell (p := ⟨w.heap.size, 1, none⟩) (Nat.le_refl _) _
  have g1 : Blk W4 TB 40 [str [65], .slice A1 k c1', .slice At k ct, .int .i64 (mk : Nat), str [], .slice none 0 0, .int .i64 0, .int .i64 0, .string ⟨#[]⟩, .slice none 0 0, .slice none 0 0, .slice none 0 0, .slice none 0 0, .int .i64 0] := by rw [hW4, hTB]; exact (HB.out.2.1.below H3.out.2 HB.out.2.1.lt).put 1 _
  have g2 : Blk W4 RB 40 [.string ⟨#[]⟩, .slice none 0 0, .slice none 0 0, .int .i64 0, .string ⟨#[]⟩, .slice none 0 0, .int .i64 0, .int .i64 0, .string ⟨#[]⟩, .slice none 0 0, .slice none 0 0, .slice none 0 0, .slice none 0 0, .int .i64 0] := by rw [hW4, hRB]; exact (HB.out.2.2.below H3.out.2 HB.out.2.2.lt).far (p := ⟨w.heap.size, 1, none⟩) (by show w.heap.size + 1 ≠ w.heap.size; omega) _
  have hs4 : W2.heap.size ≤ W4.heap.size := by rw [hW4]; simp; exact H3.out.2.size
  have hn4 : W4.ownsRow W2.heap.size 9 1 (.slice A1 k c1') k (strs N) := by rw [hW4]; exact own_set H3.out.1 (by omega)
  have hb4 : Below w.heap.size w W4 := HB.out.1.trans h24
  have ht4 : TsAt 4 W4 Any At k ct T := HI.out.2.2.1.keep (Same.any hb4)
  have H4 := Lib.hid (And.intro h24 (And.intro g1 (And.intro g2 (And.intro hs4 (And.intro hn4 (And.intro hb4 ht4))))))
  have hne : TB ≠ RB := by omega
  have HLOW := Lib.hid (show w.heap.size ≤ TB ∧ w.heap.size ≤ RB ∧ TB < W2.heap.size ∧ RB < W2.heap.size from ⟨by omega, by omega, by omega, by omega⟩)
  rw [← hW4, ← hRB, ← hTB]
  have MK := Lib.hid (show ∀ w', Below W4.heap.size W4 w' → (Below W4.heap.size W4 w' ∧ w'.cell? ⟨TB, 0, none⟩ = some (str [65]) ∧ w'.cell? ⟨TB, 1, none⟩ = some (.slice A1 k c1') ∧ w'.cell? ⟨TB, 2, none⟩ = some (.slice At k ct) ∧ w'.cell? ⟨TB, 3, none⟩ = some (.int .i64 (mk : Nat)) ∧ w'.cell? ⟨TB, 4, none⟩ = some (str []) ∧ w'.cell? ⟨TB, 5, none⟩ = some (.slice none 0 0) ∧ w'.cell? ⟨TB, 6, none⟩ = some (.int .i64 0) ∧ w'.cell? ⟨TB, 7, none⟩ = some (.int .i64 0) ∧ w'.cell? ⟨TB, 8, none⟩ = some (.string ⟨#[]⟩) ∧ w'.cell? ⟨TB, 9, none⟩ = some (.slice none 0 0) ∧ w'.cell? ⟨TB, 10, none⟩ = some (.slice none 0 0) ∧ w'.cell? ⟨TB, 11, none⟩ = some (.slice none 0 0) ∧ w'.cell? ⟨TB, 12, none⟩ = some (.slice none 0 0) ∧ w'.cell? ⟨TB, 13, none⟩ = some (.int .i64 0)) from fun w' h => ⟨h, (h.cell (p := ⟨TB, 0, none⟩) (H4.out.2.1).lt).trans ((H4.out.2.1).cell 0), (h.cell (p := ⟨TB, 1, none⟩) (H4.out.2.1).lt).trans ((H4.out.2.1).cell 1), (h.cell (p := ⟨TB, 2, none⟩) (H4.out.2.1).lt).trans ((H4.out.2.1).cell 2), (h.cell (p := ⟨TB, 3, none⟩) (H4.out.2.1).lt).trans ((H4.out.2.1).cell 3), (h.cell (p := ⟨TB, 4, none⟩) (H4.out.2.1).lt).trans ((H4.out.2.1).cell 4), (h.cell (p := ⟨TB, 5, none⟩) (H4.out.2.1).lt).trans ((H4.out.2.1).cell 5), (h.cell (p := ⟨TB, 6, none⟩) (H4.out.2.1).lt).trans ((H4.out.2.1).cell 6), (h.cell (p := ⟨TB, 7, none⟩) (H4.out.2.1).lt).trans ((H4.out.2.1).cell 7), (h.cell (p := ⟨TB, 8, none⟩) (H4.out.2.1).lt).trans ((H4.out.2.1).cell 8), (h.cell (p := ⟨TB, 9, none⟩) (H4.out.2.1).lt).trans ((H4.out.2.1).cell 9), (h.cell (p := ⟨TB, 10, none⟩) (H4.out.2.1).lt).trans ((H4.out.2.1).cell 10), (h.cell (p := ⟨TB, 11, none⟩) (H4.out.2.1).lt).trans ((H4.out.2.1).cell 11), (h.cell (p := ⟨TB, 12, none⟩) (H4.out.2.1).lt).trans ((H4.out.2.1).cell 12), (h.cell (p := ⟨TB, 13, none⟩) (H4.out.2.1).lt).trans ((H4.out.2.1).cell 13)⟩)
  have C1 := Lib.hid (show ∀ W, Below W4.heap.size W4 W → Calls Try.prog 77 #[.slice At k ct, .func (.func 78) #[] #[]] W (EachTPost 4 W k T) from fun W hW => by
    obtain ⟨vss, q1, q2, q3, q4, q5, q6⟩ := ht4.keep (Same.any hW)
    exact eachT_any 4 (copyT_any 4) At k ct T vss W Any q1 q2 q5 q6)
  have C2 := Lib.hid (show ∀ W, Below W4.heap.size W4 W → Calls Try.prog 78 #[.agg #[.int .i64 (mk : Nat), str [], .slice none 0 0]] W (fun e w' => Below W.heap.size W w' ∧ ∃ A c, e = .returned (.agg #[.int .i64 (mk : Nat), str [], .slice A 0 c]) ∧ TCells 4 w' (fun b => W.heap.size ≤ b) [.int .i64 (mk : Nat), str [], .slice A 0 c] (oneT mk)) from fun W hW => copyT_any 4 (oneT mk) none 0 W Any (TCells.one (k := mk) (d := 3) (by have := HI.out.2.2.2; omega)))
  have HTS := Lib.hid ht4
  clear hW4 hTB hRB g1 g2 hs4 hn4 hb4 ht4 h24 hlt2 p3
  refine wp_region_g (S := fun w' => Below W4.heap.size W4 w' ∧ w'.cell? ⟨TB, 0, none⟩ = some (str [65]) ∧ w'.cell? ⟨TB, 1, none⟩ = some (.slice A1 k c1') ∧ w'.cell? ⟨TB, 2, none⟩ = some (.slice At k ct) ∧ w'.cell? ⟨TB, 3, none⟩ = some (.int .i64 (mk : Nat)) ∧ w'.cell? ⟨TB, 4, none⟩ = some (str []) ∧ w'.cell? ⟨TB, 5, none⟩ = some (.slice none 0 0) ∧ w'.cell? ⟨TB, 6, none⟩ = some (.int .i64 0) ∧ w'.cell? ⟨TB, 7, none⟩ = some (.int .i64 0) ∧ w'.cell? ⟨TB, 8, none⟩ = some (.string ⟨#[]⟩) ∧ w'.cell? ⟨TB, 9, none⟩ = some (.slice none 0 0) ∧ w'.cell? ⟨TB, 10, none⟩ = some (.slice none 0 0) ∧ w'.cell? ⟨TB, 11, none⟩ = some (.slice none 0 0) ∧ w'.cell? ⟨TB, 12, none⟩ = some (.slice none 0 0) ∧ w'.cell? ⟨TB, 13, none⟩ = some (.int .i64 0)) (m := 10) (by kernel_rfl) ?_
  have HBD : Below W4.heap.size W4 (World.drew W4) := ⟨rfl, rfl, rfl, Nat.le_refl _, fun _ _ => rfl⟩
  have hS := MK.out _ HBD
  generalize World.drew W4 = W5 at *
  repeat (first | (refine wpAnyG_take (i := 0) (v := .pointer (some ⟨TB, 2, none⟩)) rfl ?_ ?_ ?_ (fun _ _ _ h => h) (Or.inl ⟨by rfl, ?_⟩) hS ?_; (· decide +kernel); (· decide +kernel); (· decide +kernel); (· (intro w' hS'; obtain ⟨hbs, sTB0, sTB1, sTB2, sTB3, sTB4, sTB5, sTB6, sTB7, sTB8, sTB9, sTB10, sTB11, sTB12, sTB13⟩ := hS'; go_simp))) | (refine wpAnyG_take (i := 1) (v := .slice At k ct) rfl ?_ ?_ ?_ (fun _ _ _ h => h) (Or.inl ⟨by rfl, ?_⟩) hS ?_; (· decide +kernel); (· decide +kernel); (· decide +kernel); (· (intro w' hS'; obtain ⟨hbs, sTB0, sTB1, sTB2, sTB3, sTB4, sTB5, sTB6, sTB7, sTB8, sTB9, sTB10, sTB11, sTB12, sTB13⟩ := hS'; go_simp))) | (refine wpAnyG_take (i := 3) (v := .pointer (some ⟨TB, 3, none⟩)) rfl ?_ ?_ ?_ (fun _ _ _ h => h) (Or.inl ⟨by rfl, ?_⟩) hS ?_; (· decide +kernel); (· decide +kernel); (· decide +kernel); (· (intro w' hS'; obtain ⟨hbs, sTB0, sTB1, sTB2, sTB3, sTB4, sTB5, sTB6, sTB7, sTB8, sTB9, sTB10, sTB11, sTB12, sTB13⟩ := hS'; go_simp))) | (refine wpAnyG_take (i := 4) (v := .agg #[.int .i64 (mk : Nat), str [], .slice none 0 0]) rfl ?_ ?_ ?_ (fun _ _ _ h => h) (Or.inl ⟨by rfl, ?_⟩) hS ?_; (· decide +kernel); (· decide +kernel); (· decide +kernel); (· (intro w' hS'; obtain ⟨hbs, sTB0, sTB1, sTB2, sTB3, sTB4, sTB5, sTB6, sTB7, sTB8, sTB9, sTB10, sTB11, sTB12, sTB13⟩ := hS'; go_simp))) | (refine wpAnyG_take (i := 6) (v := .pointer (some ⟨TB, 6, none⟩)) rfl ?_ ?_ ?_ (fun _ _ _ h => h) (Or.inl ⟨by rfl, ?_⟩) hS ?_; (· decide +kernel); (· decide +kernel); (· decide +kernel); (· (intro w' hS'; obtain ⟨hbs, sTB0, sTB1, sTB2, sTB3, sTB4, sTB5, sTB6, sTB7, sTB8, sTB9, sTB10, sTB11, sTB12, sTB13⟩ := hS'; go_simp))) | (refine wpAnyG_take (i := 7) (v := .agg #[.int .i64 0, .int .i64 0, .string ⟨#[]⟩, .slice none 0 0, .slice none 0 0, .slice none 0 0, .slice none 0 0, .int .i64 0]) rfl ?_ ?_ ?_ (fun _ _ _ h => h) (Or.inl ⟨by rfl, ?_⟩) hS ?_; (· decide +kernel); (· decide +kernel); (· decide +kernel); (· (intro w' hS'; obtain ⟨hbs, sTB0, sTB1, sTB2, sTB3, sTB4, sTB5, sTB6, sTB7, sTB8, sTB9, sTB10, sTB11, sTB12, sTB13⟩ := hS'; go_simp))) | (refine wpAnyG_take (i := 9) (v := .pointer (some ⟨TB, 2, none⟩)) rfl ?_ ?_ ?_ (fun _ _ _ h => h) (Or.inl ⟨by rfl, ?_⟩) hS ?_; (· decide +kernel); (· decide +kernel); (· decide +kernel); (· (intro w' hS'; obtain ⟨hbs, sTB0, sTB1, sTB2, sTB3, sTB4, sTB5, sTB6, sTB7, sTB8, sTB9, sTB10, sTB11, sTB12, sTB13⟩ := hS'; go_simp))) | (refine wpAnyG_take (i := 11) (v := .pointer (some ⟨TB, 3, none⟩)) rfl ?_ ?_ ?_ (fun _ _ _ h => h) (Or.inl ⟨by rfl, ?_⟩) hS ?_; (· decide +kernel); (· decide +kernel); (· decide +kernel); (· (intro w' hS'; obtain ⟨hbs, sTB0, sTB1, sTB2, sTB3, sTB4, sTB5, sTB6, sTB7, sTB8, sTB9, sTB10, sTB11, sTB12, sTB13⟩ := hS'; go_simp))) | (refine wpAnyG_take (i := 13) (v := .pointer (some ⟨TB, 6, none⟩)) rfl ?_ ?_ ?_ (fun _ _ _ h => h) (Or.inl ⟨by rfl, ?_⟩) hS ?_; (· decide +kernel); (· decide +kernel); (· decide +kernel); (· (intro w' hS'; obtain ⟨hbs, sTB0, sTB1, sTB2, sTB3, sTB4, sTB5, sTB6, sTB7, sTB8, sTB9, sTB10, sTB11, sTB12, sTB13⟩ := hS'; go_simp))))
  refine wpAnyG_ready (rs := [2]) (by decide +kernel) (by simp) ?_
  refine AllReadyG.cons rfl (fun K hK => ?_) AllReadyG.nil
  go_simp
  refine (C1.out _ HBD).mono ?_
  unfold EachTPost
  rintro e w6 ⟨⟨A2, c2, rfl, ho2⟩, hb6⟩
  have hn6 : W5.heap.size ≤ w6.heap.size := hb6.size
  have HO2 := Lib.hid (And.intro HBD.size ho2)
  replace HBD := HBD.trans (hb6.mono HBD.size)
  clear hS hb6 ho2
  have hS := MK.out _ HBD
  try dsimp only
  refine hK _ _ (fun _ => hS) ?_
  clear hK K
  repeat (first | (refine wpAnyG_take (i := 0) (v := .pointer (some ⟨TB, 2, none⟩)) rfl ?_ ?_ ?_ (fun _ _ _ h => h) (Or.inl ⟨by rfl, ?_⟩) hS ?_; (· decide +kernel); (· decide +kernel); (· decide +kernel); (· (intro w' hS'; obtain ⟨hbs, sTB0, sTB1, sTB2, sTB3, sTB4, sTB5, sTB6, sTB7, sTB8, sTB9, sTB10, sTB11, sTB12, sTB13⟩ := hS'; go_simp))) | (refine wpAnyG_take (i := 1) (v := .slice At k ct) rfl ?_ ?_ ?_ (fun _ _ _ h => h) (Or.inl ⟨by rfl, ?_⟩) hS ?_; (· decide +kernel); (· decide +kernel); (· decide +kernel); (· (intro w' hS'; obtain ⟨hbs, sTB0, sTB1, sTB2, sTB3, sTB4, sTB5, sTB6, sTB7, sTB8, sTB9, sTB10, sTB11, sTB12, sTB13⟩ := hS'; go_simp))) | (refine wpAnyG_take (i := 3) (v := .pointer (some ⟨TB, 3, none⟩)) rfl ?_ ?_ ?_ (fun _ _ _ h => h) (Or.inl ⟨by rfl, ?_⟩) hS ?_; (· decide +kernel); (· decide +kernel); (· decide +kernel); (· (intro w' hS'; obtain ⟨hbs, sTB0, sTB1, sTB2, sTB3, sTB4, sTB5, sTB6, sTB7, sTB8, sTB9, sTB10, sTB11, sTB12, sTB13⟩ := hS'; go_simp))) | (refine wpAnyG_take (i := 4) (v := .agg #[.int .i64 (mk : Nat), str [], .slice none 0 0]) rfl ?_ ?_ ?_ (fun _ _ _ h => h) (Or.inl ⟨by rfl, ?_⟩) hS ?_; (· decide +kernel); (· decide +kernel); (· decide +kernel); (· (intro w' hS'; obtain ⟨hbs, sTB0, sTB1, sTB2, sTB3, sTB4, sTB5, sTB6, sTB7, sTB8, sTB9, sTB10, sTB11, sTB12, sTB13⟩ := hS'; go_simp))) | (refine wpAnyG_take (i := 6) (v := .pointer (some ⟨TB, 6, none⟩)) rfl ?_ ?_ ?_ (fun _ _ _ h => h) (Or.inl ⟨by rfl, ?_⟩) hS ?_; (· decide +kernel); (· decide +kernel); (· decide +kernel); (· (intro w' hS'; obtain ⟨hbs, sTB0, sTB1, sTB2, sTB3, sTB4, sTB5, sTB6, sTB7, sTB8, sTB9, sTB10, sTB11, sTB12, sTB13⟩ := hS'; go_simp))) | (refine wpAnyG_take (i := 7) (v := .agg #[.int .i64 0, .int .i64 0, .string ⟨#[]⟩, .slice none 0 0, .slice none 0 0, .slice none 0 0, .slice none 0 0, .int .i64 0]) rfl ?_ ?_ ?_ (fun _ _ _ h => h) (Or.inl ⟨by rfl, ?_⟩) hS ?_; (· decide +kernel); (· decide +kernel); (· decide +kernel); (· (intro w' hS'; obtain ⟨hbs, sTB0, sTB1, sTB2, sTB3, sTB4, sTB5, sTB6, sTB7, sTB8, sTB9, sTB10, sTB11, sTB12, sTB13⟩ := hS'; go_simp))) | (refine wpAnyG_take (i := 9) (v := .pointer (some ⟨TB, 2, none⟩)) rfl ?_ ?_ ?_ (fun _ _ _ h => h) (Or.inl ⟨by rfl, ?_⟩) hS ?_; (· decide +kernel); (· decide +kernel); (· decide +kernel); (· (intro w' hS'; obtain ⟨hbs, sTB0, sTB1, sTB2, sTB3, sTB4, sTB5, sTB6, sTB7, sTB8, sTB9, sTB10, sTB11, sTB12, sTB13⟩ := hS'; go_simp))) | (refine wpAnyG_take (i := 11) (v := .pointer (some ⟨TB, 3, none⟩)) rfl ?_ ?_ ?_ (fun _ _ _ h => h) (Or.inl ⟨by rfl, ?_⟩) hS ?_; (· decide +kernel); (· decide +kernel); (· decide +kernel); (· (intro w' hS'; obtain ⟨hbs, sTB0, sTB1, sTB2, sTB3, sTB4, sTB5, sTB6, sTB7, sTB8, sTB9, sTB10, sTB11, sTB12, sTB13⟩ := hS'; go_simp))) | (refine wpAnyG_take (i := 13) (v := .pointer (some ⟨TB, 6, none⟩)) rfl ?_ ?_ ?_ (fun _ _ _ h => h) (Or.inl ⟨by rfl, ?_⟩) hS ?_; (· decide +kernel); (· decide +kernel); (· decide +kernel); (· (intro w' hS'; obtain ⟨hbs, sTB0, sTB1, sTB2, sTB3, sTB4, sTB5, sTB6, sTB7, sTB8, sTB9, sTB10, sTB11, sTB12, sTB13⟩ := hS'; go_simp))))
  refine wpAnyG_ready (rs := [5]) (by decide +kernel) (by simp) ?_
  refine AllReadyG.cons rfl (fun K hK => ?_) AllReadyG.nil
  go_simp
  refine (C2.out _ HBD).mono ?_
  rintro e w7 ⟨hb7, A3, c3, rfl, ht3⟩
  have HT3 := Lib.hid (And.intro hb7 ht3)
  have HBD6 := Lib.hid HBD
  replace HBD := HBD.trans (hb7.mono HBD.size)
  clear hS hb7 ht3
  have hS := MK.out _ HBD
  try dsimp only
  refine hK _ _ (fun _ => hS) ?_
  clear hK K
  repeat (first | (refine wpAnyG_take (i := 0) (v := .pointer (some ⟨TB, 2, none⟩)) rfl ?_ ?_ ?_ (fun _ _ _ h => h) (Or.inl ⟨by rfl, ?_⟩) hS ?_; (· decide +kernel); (· decide +kernel); (· decide +kernel); (· (intro w' hS'; obtain ⟨hbs, sTB0, sTB1, sTB2, sTB3, sTB4, sTB5, sTB6, sTB7, sTB8, sTB9, sTB10, sTB11, sTB12, sTB13⟩ := hS'; go_simp))) | (refine wpAnyG_take (i := 1) (v := .slice At k ct) rfl ?_ ?_ ?_ (fun _ _ _ h => h) (Or.inl ⟨by rfl, ?_⟩) hS ?_; (· decide +kernel); (· decide +kernel); (· decide +kernel); (· (intro w' hS'; obtain ⟨hbs, sTB0, sTB1, sTB2, sTB3, sTB4, sTB5, sTB6, sTB7, sTB8, sTB9, sTB10, sTB11, sTB12, sTB13⟩ := hS'; go_simp))) | (refine wpAnyG_take (i := 3) (v := .pointer (some ⟨TB, 3, none⟩)) rfl ?_ ?_ ?_ (fun _ _ _ h => h) (Or.inl ⟨by rfl, ?_⟩) hS ?_; (· decide +kernel); (· decide +kernel); (· decide +kernel); (· (intro w' hS'; obtain ⟨hbs, sTB0, sTB1, sTB2, sTB3, sTB4, sTB5, sTB6, sTB7, sTB8, sTB9, sTB10, sTB11, sTB12, sTB13⟩ := hS'; go_simp))) | (refine wpAnyG_take (i := 4) (v := .agg #[.int .i64 (mk : Nat), str [], .slice none 0 0]) rfl ?_ ?_ ?_ (fun _ _ _ h => h) (Or.inl ⟨by rfl, ?_⟩) hS ?_; (· decide +kernel); (· decide +kernel); (· decide +kernel); (· (intro w' hS'; obtain ⟨hbs, sTB0, sTB1, sTB2, sTB3, sTB4, sTB5, sTB6, sTB7, sTB8, sTB9, sTB10, sTB11, sTB12, sTB13⟩ := hS'; go_simp))) | (refine wpAnyG_take (i := 6) (v := .pointer (some ⟨TB, 6, none⟩)) rfl ?_ ?_ ?_ (fun _ _ _ h => h) (Or.inl ⟨by rfl, ?_⟩) hS ?_; (· decide +kernel); (· decide +kernel); (· decide +kernel); (· (intro w' hS'; obtain ⟨hbs, sTB0, sTB1, sTB2, sTB3, sTB4, sTB5, sTB6, sTB7, sTB8, sTB9, sTB10, sTB11, sTB12, sTB13⟩ := hS'; go_simp))) | (refine wpAnyG_take (i := 7) (v := .agg #[.int .i64 0, .int .i64 0, .string ⟨#[]⟩, .slice none 0 0, .slice none 0 0, .slice none 0 0, .slice none 0 0, .int .i64 0]) rfl ?_ ?_ ?_ (fun _ _ _ h => h) (Or.inl ⟨by rfl, ?_⟩) hS ?_; (· decide +kernel); (· decide +kernel); (· decide +kernel); (· (intro w' hS'; obtain ⟨hbs, sTB0, sTB1, sTB2, sTB3, sTB4, sTB5, sTB6, sTB7, sTB8, sTB9, sTB10, sTB11, sTB12, sTB13⟩ := hS'; go_simp))) | (refine wpAnyG_take (i := 9) (v := .pointer (some ⟨TB, 2, none⟩)) rfl ?_ ?_ ?_ (fun _ _ _ h => h) (Or.inl ⟨by rfl, ?_⟩) hS ?_; (· decide +kernel); (· decide +kernel); (· decide +kernel); (· (intro w' hS'; obtain ⟨hbs, sTB0, sTB1, sTB2, sTB3, sTB4, sTB5, sTB6, sTB7, sTB8, sTB9, sTB10, sTB11, sTB12, sTB13⟩ := hS'; go_simp))) | (refine wpAnyG_take (i := 11) (v := .pointer (some ⟨TB, 3, none⟩)) rfl ?_ ?_ ?_ (fun _ _ _ h => h) (Or.inl ⟨by rfl, ?_⟩) hS ?_; (· decide +kernel); (· decide +kernel); (· decide +kernel); (· (intro w' hS'; obtain ⟨hbs, sTB0, sTB1, sTB2, sTB3, sTB4, sTB5, sTB6, sTB7, sTB8, sTB9, sTB10, sTB11, sTB12, sTB13⟩ := hS'; go_simp))) | (refine wpAnyG_take (i := 13) (v := .pointer (some ⟨TB, 6, none⟩)) rfl ?_ ?_ ?_ (fun _ _ _ h => h) (Or.inl ⟨by rfl, ?_⟩) hS ?_; (· decide +kernel); (· decide +kernel); (· decide +kernel); (· (intro w' hS'; obtain ⟨hbs, sTB0, sTB1, sTB2, sTB3, sTB4, sTB5, sTB6, sTB7, sTB8, sTB9, sTB10, sTB11, sTB12, sTB13⟩ := hS'; go_simp))))
  refine wpAnyG_ready (rs := [8]) (by decide +kernel) (by simp) ?_
  refine AllReadyG.cons rfl (fun K hK => ?_) AllReadyG.nil
  go_simp
  refine (exprE_any _).mono ?_
  rintro e w8 ⟨rfl, hb8⟩
  have HBD7 := Lib.hid (And.intro HBD hb8)
  replace HBD := HBD.trans (hb8.mono HBD.size)
  clear hS hb8
  have hS := MK.out _ HBD
  try dsimp only
  refine hK _ _ (fun _ => hS) ?_
  clear hK K
  repeat (first | (refine wpAnyG_take (i := 0) (v := .pointer (some ⟨TB, 2, none⟩)) rfl ?_ ?_ ?_ (fun _ _ _ h => h) (Or.inl ⟨by rfl, ?_⟩) hS ?_; (· decide +kernel); (· decide +kernel); (· decide +kernel); (· (intro w' hS'; obtain ⟨hbs, sTB0, sTB1, sTB2, sTB3, sTB4, sTB5, sTB6, sTB7, sTB8, sTB9, sTB10, sTB11, sTB12, sTB13⟩ := hS'; go_simp))) | (refine wpAnyG_take (i := 1) (v := .slice At k ct) rfl ?_ ?_ ?_ (fun _ _ _ h => h) (Or.inl ⟨by rfl, ?_⟩) hS ?_; (· decide +kernel); (· decide +kernel); (· decide +kernel); (· (intro w' hS'; obtain ⟨hbs, sTB0, sTB1, sTB2, sTB3, sTB4, sTB5, sTB6, sTB7, sTB8, sTB9, sTB10, sTB11, sTB12, sTB13⟩ := hS'; go_simp))) | (refine wpAnyG_take (i := 3) (v := .pointer (some ⟨TB, 3, none⟩)) rfl ?_ ?_ ?_ (fun _ _ _ h => h) (Or.inl ⟨by rfl, ?_⟩) hS ?_; (· decide +kernel); (· decide +kernel); (· decide +kernel); (· (intro w' hS'; obtain ⟨hbs, sTB0, sTB1, sTB2, sTB3, sTB4, sTB5, sTB6, sTB7, sTB8, sTB9, sTB10, sTB11, sTB12, sTB13⟩ := hS'; go_simp))) | (refine wpAnyG_take (i := 4) (v := .agg #[.int .i64 (mk : Nat), str [], .slice none 0 0]) rfl ?_ ?_ ?_ (fun _ _ _ h => h) (Or.inl ⟨by rfl, ?_⟩) hS ?_; (· decide +kernel); (· decide +kernel); (· decide +kernel); (· (intro w' hS'; obtain ⟨hbs, sTB0, sTB1, sTB2, sTB3, sTB4, sTB5, sTB6, sTB7, sTB8, sTB9, sTB10, sTB11, sTB12, sTB13⟩ := hS'; go_simp))) | (refine wpAnyG_take (i := 6) (v := .pointer (some ⟨TB, 6, none⟩)) rfl ?_ ?_ ?_ (fun _ _ _ h => h) (Or.inl ⟨by rfl, ?_⟩) hS ?_; (· decide +kernel); (· decide +kernel); (· decide +kernel); (· (intro w' hS'; obtain ⟨hbs, sTB0, sTB1, sTB2, sTB3, sTB4, sTB5, sTB6, sTB7, sTB8, sTB9, sTB10, sTB11, sTB12, sTB13⟩ := hS'; go_simp))) | (refine wpAnyG_take (i := 7) (v := .agg #[.int .i64 0, .int .i64 0, .string ⟨#[]⟩, .slice none 0 0, .slice none 0 0, .slice none 0 0, .slice none 0 0, .int .i64 0]) rfl ?_ ?_ ?_ (fun _ _ _ h => h) (Or.inl ⟨by rfl, ?_⟩) hS ?_; (· decide +kernel); (· decide +kernel); (· decide +kernel); (· (intro w' hS'; obtain ⟨hbs, sTB0, sTB1, sTB2, sTB3, sTB4, sTB5, sTB6, sTB7, sTB8, sTB9, sTB10, sTB11, sTB12, sTB13⟩ := hS'; go_simp))) | (refine wpAnyG_take (i := 9) (v := .pointer (some ⟨TB, 2, none⟩)) rfl ?_ ?_ ?_ (fun _ _ _ h => h) (Or.inl ⟨by rfl, ?_⟩) hS ?_; (· decide +kernel); (· decide +kernel); (· decide +kernel); (· (intro w' hS'; obtain ⟨hbs, sTB0, sTB1, sTB2, sTB3, sTB4, sTB5, sTB6, sTB7, sTB8, sTB9, sTB10, sTB11, sTB12, sTB13⟩ := hS'; go_simp))) | (refine wpAnyG_take (i := 11) (v := .pointer (some ⟨TB, 3, none⟩)) rfl ?_ ?_ ?_ (fun _ _ _ h => h) (Or.inl ⟨by rfl, ?_⟩) hS ?_; (· decide +kernel); (· decide +kernel); (· decide +kernel); (· (intro w' hS'; obtain ⟨hbs, sTB0, sTB1, sTB2, sTB3, sTB4, sTB5, sTB6, sTB7, sTB8, sTB9, sTB10, sTB11, sTB12, sTB13⟩ := hS'; go_simp))) | (refine wpAnyG_take (i := 13) (v := .pointer (some ⟨TB, 6, none⟩)) rfl ?_ ?_ ?_ (fun _ _ _ h => h) (Or.inl ⟨by rfl, ?_⟩) hS ?_; (· decide +kernel); (· decide +kernel); (· decide +kernel); (· (intro w' hS'; obtain ⟨hbs, sTB0, sTB1, sTB2, sTB3, sTB4, sTB5, sTB6, sTB7, sTB8, sTB9, sTB10, sTB11, sTB12, sTB13⟩ := hS'; go_simp))))
  have fT := H4.out.2.1.same (Same.any HBD : Same Any _ _) trivial
  have fR := H4.out.2.2.1.same (Same.any HBD : Same Any _ _) trivial
  have s2 := fT.cell 2
  have s3 := fT.cell 3
  have s4 := fT.cell 4
  have s5 := fT.cell 5
  have lT := fT.lt
  have z2 := fT.frozen 2
  have z3 := fT.frozen 3
  have z4 := fT.frozen 4
  have z5 := fT.frozen 5
  simp only [List.getElem?_cons_zero, List.getElem?_cons_succ] at s2 s3 s4 s5
  have s6 := fT.cell 6
  have z6 := fT.frozen 6
  simp only [List.getElem?_cons_zero, List.getElem?_cons_succ] at s6
  have s7 := fT.cell 7
  have z7 := fT.frozen 7
  simp only [List.getElem?_cons_zero, List.getElem?_cons_succ] at s7
  have s8 := fT.cell 8
  have z8 := fT.frozen 8
  simp only [List.getElem?_cons_zero, List.getElem?_cons_succ] at s8
  have s9 := fT.cell 9
  have z9 := fT.frozen 9
  simp only [List.getElem?_cons_zero, List.getElem?_cons_succ] at s9
  have s10 := fT.cell 10
  have z10 := fT.frozen 10
  simp only [List.getElem?_cons_zero, List.getElem?_cons_succ] at s10
  have s11 := fT.cell 11
  have z11 := fT.frozen 11
  simp only [List.getElem?_cons_zero, List.getElem?_cons_succ] at s11
  have s12 := fT.cell 12
  have z12 := fT.frozen 12
  simp only [List.getElem?_cons_zero, List.getElem?_cons_succ] at s12
  have s13 := fT.cell 13
  have z13 := fT.frozen 13
  simp only [List.getElem?_cons_zero, List.getElem?_cons_succ] at s13
  clear hS
  refine wpAnyG_ready (rs := [10]) (by decide +kernel) (by simp) ?_
  refine AllReadyG.cons rfl (fun K hK => ?_) AllReadyG.nil
  go_simp
  refine hK _ _ (fun h => absurd h (by decide)) ?_
  clear hK K
  refine wpAnyG_ready (rs := [11]) (by decide +kernel) (by simp) ?_
  refine AllReadyG.cons rfl (fun K hK => ?_) AllReadyG.nil
  go_simp
  refine hK _ _ (fun h => absurd h (by decide)) ?_
  clear hK K
  refine wpAnyG_ready (rs := [12]) (by decide +kernel) (by simp) ?_
  refine AllReadyG.cons rfl (fun K hK => ?_) AllReadyG.nil
  go_simp
  refine hK _ _ (fun h => absurd h (by decide)) ?_
  clear hK K
  refine wpAnyG_ready (rs := [13]) (by decide +kernel) (by simp) ?_
  refine AllReadyG.cons rfl (fun K hK => ?_) AllReadyG.nil
  go_simp
  refine hK _ _ (fun h => absurd h (by decide)) ?_
  clear hK K
  refine wpAnyG_ready (rs := [14]) (by decide +kernel) (by simp) ?_
  refine AllReadyG.cons rfl (fun K hK => ?_) AllReadyG.nil
  go_simp
  refine hK _ _ (fun h => absurd h (by decide)) ?_
  clear hK K
  refine wpAnyG_done (by decide +kernel) ?_ _
  have HTR := Lib.hid (And.intro fT fR)
  have r0 := fR.cell 0
  have x0 := fR.frozen 0
  have r1 := fR.cell 1
  have x1 := fR.frozen 1
  have r2 := fR.cell 2
  have x2 := fR.frozen 2
  have r3 := fR.cell 3
  have x3 := fR.frozen 3
  have r4 := fR.cell 4
  have x4 := fR.frozen 4
  have r5 := fR.cell 5
  have x5 := fR.frozen 5
  have r6 := fR.cell 6
  have x6 := fR.frozen 6
  have r7 := fR.cell 7
  have x7 := fR.frozen 7
  have r8 := fR.cell 8
  have x8 := fR.frozen 8
  have r9 := fR.cell 9
  have x9 := fR.frozen 9
  have r10 := fR.cell 10
  have x10 := fR.frozen 10
  have r11 := fR.cell 11
  have x11 := fR.frozen 11
  have r12 := fR.cell 12
  have x12 := fR.frozen 12
  have r13 := fR.cell 13
  have x13 := fR.frozen 13
  have s0 := fT.cell 0
  have s1 := fT.cell 1
  have lR := fR.lt
  simp only [List.getElem?_cons_zero, List.getElem?_cons_succ] at s0 s1 r0 r1 r2 r3 r4 r5 r6 r7 r8 r9 r10 r11 r12 r13
  clear fT fR
  go_wp2_with (fail)
  obtain ⟨fT, fR⟩ := HTR.out
  have hB := ((((((((((((((((((((((((((fR.far (p := ⟨TB, 2, none⟩) (fun e => hne e.symm) (.slice A2 k c2)).far (p := ⟨TB, 3, none⟩) (fun e => hne e.symm) (.int .i64 (mk : Nat))).far (p := ⟨TB, 4, none⟩) (fun e => hne e.symm) (.string ⟨#[]⟩)).far (p := ⟨TB, 5, none⟩) (fun e => hne e.symm) (.slice A3 0 c3)).far (p := ⟨TB, 6, none⟩) (fun e => hne e.symm) (.int .i64 0)).far (p := ⟨TB, 7, none⟩) (fun e => hne e.symm) (.int .i64 0)).far (p := ⟨TB, 8, none⟩) (fun e => hne e.symm) (.string ⟨#[]⟩)).far (p := ⟨TB, 9, none⟩) (fun e => hne e.symm) (.slice none 0 0)).far (p := ⟨TB, 10, none⟩) (fun e => hne e.symm) (.slice none 0 0)).far (p := ⟨TB, 11, none⟩) (fun e => hne e.symm) (.slice none 0 0)).far (p := ⟨TB, 12, none⟩) (fun e => hne e.symm) (.slice none 0 0)).far (p := ⟨TB, 13, none⟩) (fun e => hne e.symm) (.int .i64 0)).put 0 (str [65])).put 1 (.slice A1 k c1')).put 2 (.slice A2 k c2)).put 3 (.int .i64 (mk : Nat))).put 4 (.string ⟨#[]⟩)).put 5 (.slice A3 0 c3)).put 6 (.int .i64 0)).put 7 (.int .i64 0)).put 8 (.string ⟨#[]⟩)).put 9 (.slice none 0 0)).put 10 (.slice none 0 0)).put 11 (.slice none 0 0)).put 12 (.slice none 0 0)).put 13 (.int .i64 0))
  have hlow : w.heap.size ≤ TB ∧ w.heap.size ≤ RB ∧ TB < W2.heap.size ∧ RB < W2.heap.size := HLOW.out
  have hbe := (((((((((((((((((((((((((((H4.out.2.2.2.2.2.1.trans (HBD.mono H4.out.2.2.2.2.2.1.size)).setCell (p := ⟨TB, 2, none⟩) hlow.1 (.slice A2 k c2)).setCell (p := ⟨TB, 3, none⟩) hlow.1 (.int .i64 (mk : Nat))).setCell (p := ⟨TB, 4, none⟩) hlow.1 (.string ⟨#[]⟩)).setCell (p := ⟨TB, 5, none⟩) hlow.1 (.slice A3 0 c3)).setCell (p := ⟨TB, 6, none⟩) hlow.1 (.int .i64 0)).setCell (p := ⟨TB, 7, none⟩) hlow.1 (.int .i64 0)).setCell (p := ⟨TB, 8, none⟩) hlow.1 (.string ⟨#[]⟩)).setCell (p := ⟨TB, 9, none⟩) hlow.1 (.slice none 0 0)).setCell (p := ⟨TB, 10, none⟩) hlow.1 (.slice none 0 0)).setCell (p := ⟨TB, 11, none⟩) hlow.1 (.slice none 0 0)).setCell (p := ⟨TB, 12, none⟩) hlow.1 (.slice none 0 0)).setCell (p := ⟨TB, 13, none⟩) hlow.1 (.int .i64 0)).setCell (p := ⟨RB, 0, none⟩) hlow.2.1 (str [65])).setCell (p := ⟨RB, 1, none⟩) hlow.2.1 (.slice A1 k c1')).setCell (p := ⟨RB, 2, none⟩) hlow.2.1 (.slice A2 k c2)).setCell (p := ⟨RB, 3, none⟩) hlow.2.1 (.int .i64 (mk : Nat))).setCell (p := ⟨RB, 4, none⟩) hlow.2.1 (.string ⟨#[]⟩)).setCell (p := ⟨RB, 5, none⟩) hlow.2.1 (.slice A3 0 c3)).setCell (p := ⟨RB, 6, none⟩) hlow.2.1 (.int .i64 0)).setCell (p := ⟨RB, 7, none⟩) hlow.2.1 (.int .i64 0)).setCell (p := ⟨RB, 8, none⟩) hlow.2.1 (.string ⟨#[]⟩)).setCell (p := ⟨RB, 9, none⟩) hlow.2.1 (.slice none 0 0)).setCell (p := ⟨RB, 10, none⟩) hlow.2.1 (.slice none 0 0)).setCell (p := ⟨RB, 11, none⟩) hlow.2.1 (.slice none 0 0)).setCell (p := ⟨RB, 12, none⟩) hlow.2.1 (.slice none 0 0)).setCell (p := ⟨RB, 13, none⟩) hlow.2.1 (.int .i64 0))
  have hf : ∀ b, W2.heap.size ≤ b → ((((((((((((((((((((((((((w8.setCell ⟨TB, 2, none⟩ (.slice A2 k c2)).setCell ⟨TB, 3, none⟩ (.int .i64 (mk : Nat))).setCell ⟨TB, 4, none⟩ (.string ⟨#[]⟩)).setCell ⟨TB, 5, none⟩ (.slice A3 0 c3)).setCell ⟨TB, 6, none⟩ (.int .i64 0)).setCell ⟨TB, 7, none⟩ (.int .i64 0)).setCell ⟨TB, 8, none⟩ (.string ⟨#[]⟩)).setCell ⟨TB, 9, none⟩ (.slice none 0 0)).setCell ⟨TB, 10, none⟩ (.slice none 0 0)).setCell ⟨TB, 11, none⟩ (.slice none 0 0)).setCell ⟨TB, 12, none⟩ (.slice none 0 0)).setCell ⟨TB, 13, none⟩ (.int .i64 0)).setCell ⟨RB, 0, none⟩ (str [65])).setCell ⟨RB, 1, none⟩ (.slice A1 k c1')).setCell ⟨RB, 2, none⟩ (.slice A2 k c2)).setCell ⟨RB, 3, none⟩ (.int .i64 (mk : Nat))).setCell ⟨RB, 4, none⟩ (.string ⟨#[]⟩)).setCell ⟨RB, 5, none⟩ (.slice A3 0 c3)).setCell ⟨RB, 6, none⟩ (.int .i64 0)).setCell ⟨RB, 7, none⟩ (.int .i64 0)).setCell ⟨RB, 8, none⟩ (.string ⟨#[]⟩)).setCell ⟨RB, 9, none⟩ (.slice none 0 0)).setCell ⟨RB, 10, none⟩ (.slice none 0 0)).setCell ⟨RB, 11, none⟩ (.slice none 0 0)).setCell ⟨RB, 12, none⟩ (.slice none 0 0)).setCell ⟨RB, 13, none⟩ (.int .i64 0)).heap[b]? = w8.heap[b]? := fun b hb => by
    have h1 : b ≠ TB := by omega
    have h2 : b ≠ RB := by omega
    rw [Below.heap_setCell _ _ _ _ h2, Below.heap_setCell _ _ _ _ h2, Below.heap_setCell _ _ _ _ h2, Below.heap_setCell _ _ _ _ h2, Below.heap_setCell _ _ _ _ h2, Below.heap_setCell _ _ _ _ h2, Below.heap_setCell _ _ _ _ h2, Below.heap_setCell _ _ _ _ h2, Below.heap_setCell _ _ _ _ h2, Below.heap_setCell _ _ _ _ h2, Below.heap_setCell _ _ _ _ h2, Below.heap_setCell _ _ _ _ h2, Below.heap_setCell _ _ _ _ h2, Below.heap_setCell _ _ _ _ h2, Below.heap_setCell _ _ _ _ h1, Below.heap_setCell _ _ _ _ h1, Below.heap_setCell _ _ _ _ h1, Below.heap_setCell _ _ _ _ h1, Below.heap_setCell _ _ _ _ h1, Below.heap_setCell _ _ _ _ h1, Below.heap_setCell _ _ _ _ h1, Below.heap_setCell _ _ _ _ h1, Below.heap_setCell _ _ _ _ h1, Below.heap_setCell _ _ _ _ h1, Below.heap_setCell _ _ _ _ h1, Below.heap_setCell _ _ _ _ h1]
  generalize ((((((((((((((((((((((((((w8.setCell ⟨TB, 2, none⟩ (.slice A2 k c2)).setCell ⟨TB, 3, none⟩ (.int .i64 (mk : Nat))).setCell ⟨TB, 4, none⟩ (.string ⟨#[]⟩)).setCell ⟨TB, 5, none⟩ (.slice A3 0 c3)).setCell ⟨TB, 6, none⟩ (.int .i64 0)).setCell ⟨TB, 7, none⟩ (.int .i64 0)).setCell ⟨TB, 8, none⟩ (.string ⟨#[]⟩)).setCell ⟨TB, 9, none⟩ (.slice none 0 0)).setCell ⟨TB, 10, none⟩ (.slice none 0 0)).setCell ⟨TB, 11, none⟩ (.slice none 0 0)).setCell ⟨TB, 12, none⟩ (.slice none 0 0)).setCell ⟨TB, 13, none⟩ (.int .i64 0)).setCell ⟨RB, 0, none⟩ (str [65])).setCell ⟨RB, 1, none⟩ (.slice A1 k c1')).setCell ⟨RB, 2, none⟩ (.slice A2 k c2)).setCell ⟨RB, 3, none⟩ (.int .i64 (mk : Nat))).setCell ⟨RB, 4, none⟩ (.string ⟨#[]⟩)).setCell ⟨RB, 5, none⟩ (.slice A3 0 c3)).setCell ⟨RB, 6, none⟩ (.int .i64 0)).setCell ⟨RB, 7, none⟩ (.int .i64 0)).setCell ⟨RB, 8, none⟩ (.string ⟨#[]⟩)).setCell ⟨RB, 9, none⟩ (.slice none 0 0)).setCell ⟨RB, 10, none⟩ (.slice none 0 0)).setCell ⟨RB, 11, none⟩ (.slice none 0 0)).setCell ⟨RB, 12, none⟩ (.slice none 0 0)).setCell ⟨RB, 13, none⟩ (.int .i64 0)) = WF at hB hbe hf ⊢
  refine ret_blk rfl rfl hB Try.underlying40 (by kernel_rfl) rfl ?_
  unfold CopyAPost
  have e1 := H4.out.2.2.2.1
  have e2 := HO2.out.1
  have e3 := HBD6.out.size
  have e4 := HBD7.out.1.size
  refine ⟨hbe, A1, c1', A2, c2, A3, c3, rfl, ?_⟩
  obtain ⟨vss2, o1, o2, o3, hr2, ha2⟩ := HO2.out.2.reads (TCells.stable 4) (by omega)
  obtain ⟨n1, n2, n3⟩ := own_reads (by omega) H4.out.2.2.2.2.1
  have k8 : Same (fun b => W4.heap.size ≤ b ∧ b < w7.heap.size ∨ b < W4.heap.size) w7 w8 := fun b _ hl => HBD7.out.2.block b hl
  refine ⟨⟨HI.out.1, hk0, n1, n2⟩, ?_, ⟨vss2, o1, by omega, o2, o3, ?_, ?_⟩, ?_⟩
  · exact ((n3.keep (Same.any HBD : Same _ W4 w8)).keep (fun b hb _ => hf b hb)).imp (by omega) fun b hb _ => by have hb' : W2.heap.size ≤ b := hb; omega
  · exact (((hr2.keep (Same.any HT3.out.1)).keep (Same.any HBD7.out.2)).keep (fun b hb _ => hf b (by have hb' : W5.heap.size ≤ b := hb; omega))).imp (by omega) fun b hb _ => by have hb' : W5.heap.size ≤ b := hb; omega
  · exact ha2.imp fun x y hxy => (((hxy.keep (Same.any HT3.out.1)).keep (Same.any HBD7.out.2)).keep (fun b hb _ => hf b (by have hb' : W5.heap.size ≤ b := hb; omega))).imp fun b hb _ => by have hb' : W5.heap.size ≤ b := hb; omega
  · have ht := ((HT3.out.2.keep (Same.any HBD7.out.2)).keep (fun b hb _ => hf b (by have hb' : w6.heap.size ≤ b := hb; omega))).imp (D' := fun b => w.heap.size ≤ b) fun b hb _ => by have hb' : w6.heap.size ≤ b := hb; omega
    obtain ⟨A9, c9, vs9, q0, q1, q2, q3, q4, q5, q6, q7⟩ := ht
    simp at q0
    obtain ⟨rfl, rfl⟩ := q0
    exact ⟨rfl, rfl, q1, q2, 3, rfl, vs9, rfl, by simp, q4, q5, q6, q7⟩
end Go.Proofs.Ytoddjdajjmcliaa
