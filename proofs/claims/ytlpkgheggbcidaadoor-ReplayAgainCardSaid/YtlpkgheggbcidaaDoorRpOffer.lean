/- Contract of package replay's offer. -/
import Derived.Test.YtlpkgheggbcidaaDoorRpDel
set_option linter.unusedVariables false
namespace Go.Proofs.YtlpkgheggbcidaaDoor
open Go.RowKit Go.Mem Go.Rp Go.Maps
/-- what a method of an actor leaves -/
def ActPost (w : World) (B : Nat) (own : Nat → Prop) (S : Nat) (x : Ac) (e : Ending) (w' : World) : Prop := e = .returned (.tuple #[]) ∧ ActAt w' B (fun b => own b ∨ w.heap.size ≤ b) S x ∧ GrownIn own w w'
/-- what the loads of offer read -/
def OffS (S T g off o : Nat) (bv : Value) (vk vn : Int) (W : World) : Prop := W.cell? ⟨S, 0, none⟩ = some (.iface 166 (.pointer (some ⟨T, 0, none⟩))) ∧ W.cell? ⟨S, 1, none⟩ = some bv ∧ W.cell? ⟨S, 4, none⟩ = some (.int .i64 (o : Nat)) ∧ W.cell? ⟨g, off + o * 4, none⟩ = some (.int .i64 vk) ∧ W.cell? ⟨g, off + o * 4 + 1, none⟩ = some (.int .i64 vn) ∧ W.cell? ⟨g, off + o * 4 + 2, none⟩ = some (.string ⟨#[]⟩) ∧ W.cell? ⟨g, off + o * 4 + 3, none⟩ = some (.slice none 0 0)
theorem OffS.same {S T g off o : Nat} {bv : Value} {vk vn : Int} {W W' : World} (h : OffS S T g off o bv vk vn W) (hS : W'.heap[S]? = W.heap[S]?) (hg : W'.heap[g]? = W.heap[g]?) : OffS S T g off o bv vk vn W' := by
  obtain ⟨h1, h2, h3, h4, h5, h6, h7⟩ := h
  exact ⟨(World.cell?_of_block (w := W) hS).trans h1, (World.cell?_of_block (w := W) hS).trans h2, (World.cell?_of_block (w := W) hS).trans h3, (World.cell?_of_block (w := W) hg).trans h4, (World.cell?_of_block (w := W) hg).trans h5, (World.cell?_of_block (w := W) hg).trans h6, (World.cell?_of_block (w := W) hg).trans h7⟩
set_option maxRecDepth 100000 in
set_option maxHeartbeats 4000000 in
theorem offer_any (w : World) (B : Nat) (own : Nat → Prop) (S T : Nat) (bv : Value) (x : Ac) (v : Vl) (h : ActW w B own S T bv x) (hB : ∀ b, own b → B ≤ b) (hBw : B ≤ w.heap.size) (hv : x.box[x.off]? = some v) (hlen : x.box.length ≤ 500000) :
    Calls Tryd.prog 28 #[.pointer (some ⟨S, 0, none⟩)] w (ActPost w B own S (offerF x)) := by
  have hoff := (List.getElem?_eq_some_iff.1 hv).1
  obtain ⟨m, hm⟩ : ∃ m, x.box.length = m + 1 := ⟨x.box.length - 1, by omega⟩
  have sg := h.box
  rw [hm] at sg
  rcases id sg.2 with ⟨_, h0⟩ | ⟨g, off, c, cur, rfl, bG, hnc, hcm, hcs, htake⟩
  · omega
  have nST : S ≠ T := by
    obtain ⟨_, _, _, _, _, hb, _⟩ := h.toy
    exact h.blk.ne_ hb (by decide)
  have nSg : S ≠ g := h.blk.ne_ bG (by decide)
  have nTg : T ≠ g := by
    obtain ⟨_, _, _, _, _, hb, _⟩ := h.toy
    exact hb.ne_ bG (by decide)
  have og : own g := h.ob g rfl
  have c0 := h.blk.cell 0
  have c1 := h.blk.cell 1
  have c4 := h.blk.cell 4
  simp only [acC, List.getElem?_cons_succ, List.getElem?_cons_zero] at c0 c1 c4
  have vcell : ∀ j, j < 4 → w.cell? ⟨g, off + (x.off * 4 + j), none⟩ = (vlC v)[j]? := fun j hj => by
    have e1 := cat_at vlC_len x.box x.off j hoff hj
    have e2 : x.box[x.off] = v := (List.getElem?_eq_some_iff.1 hv).2
    rw [e2] at e1
    have e3 : j < (vlC v).length := hj
    rw [List.getElem?_eq_getElem e3] at e1 ⊢
    exact sg.cells _ _ e1
  have v0 := vcell 0 (by omega)
  have v1 := vcell 1 (by omega)
  have v2 := vcell 2 (by omega)
  have v3 := vcell 3 (by omega)
  simp only [vlC, List.getElem?_cons_succ, List.getElem?_cons_zero, Nat.add_zero, ← Nat.add_assoc] at v0 v1 v2 v3
  have lS := h.blk.lt
  have lT := h.toy.lt
  have lG := bG.lt
  have hBT : B ≤ T := hB T h.oT
  obtain ⟨o, ho⟩ : ∃ o, o = x.off := ⟨_, rfl⟩
  rw [← ho] at c4 v0 v1 v2 v3 hoff
  have om : o ≤ m := by omega
  have omZ : (o : Int) < ((m : Int) + 1) := by omega
  have o0 : (0 : Int) ≤ (o : Int) := by omega
  have om5 : (o : Int) ≤ 500000 := by omega
  have m5 : m ≤ 500000 := by omega
  have hMe := fun f W => meth_offer f T W
  obtain ⟨vk, vn⟩ := v
  have EF : ∀ b t, offerT x.ty ⟨vk, vn⟩ = b → (b = none → offerF x = { x with off := x.off + 1 }) ∧ (b = some t → offerF x = { x with ty := t, box := x.box.eraseIdx x.off, waiting := false }) := fun b t hb => by
    subst hb
    unfold offerF
    rw [hv]
    exact ⟨fun e => by simp only [e], fun e => by simp only [e]⟩
  have HE := Lib.hid EF
  have H := Lib.hid h
  have HSG := Lib.hid sg
  have HO := Lib.hid (And.intro ho hm)
  clear EF h sg bG hv ho hm vcell htake hcs hcm hlen
  go_enter Tryd.func28, Tryd.ntmps28
  go_wp2_with (fail)
  refine wp_region_g (S := OffS S T g off o (.slice (some ⟨g, off, none⟩) (m + 1) c) vk vn) (m := 17) (by kernel_rfl) ?_
  have hS : OffS S T g off o (.slice (some ⟨g, off, none⟩) (m + 1) c) vk vn (World.drew w) := ⟨c0, c1, c4, v0, v1, v2, v3⟩
  repeat (first | (refine wpAnyG_take (i := 0) (v := .pointer (some ⟨S, 0, none⟩)) rfl ?_ ?_ ?_ (fun _ _ _ h => h) (Or.inl ⟨by rfl, ?_⟩) hS ?_; (· decide +kernel); (· decide +kernel); (· decide +kernel); (· (intro w' hS'; obtain ⟨hS0, hS1, hS2, hS3, hS4, hS5, hS6⟩ := hS'; go_simp))) | (refine wpAnyG_take (i := 1) (v := .pointer (some ⟨S, 0, none⟩)) rfl ?_ ?_ ?_ (fun _ _ _ h => h) (Or.inl ⟨by rfl, ?_⟩) hS ?_; (· decide +kernel); (· decide +kernel); (· decide +kernel); (· (intro w' hS'; obtain ⟨hS0, hS1, hS2, hS3, hS4, hS5, hS6⟩ := hS'; go_simp))) | (refine wpAnyG_take (i := 2) (v := .pointer (some ⟨S, 0, none⟩)) rfl ?_ ?_ ?_ (fun _ _ _ h => h) (Or.inl ⟨by rfl, ?_⟩) hS ?_; (· decide +kernel); (· decide +kernel); (· decide +kernel); (· (intro w' hS'; obtain ⟨hS0, hS1, hS2, hS3, hS4, hS5, hS6⟩ := hS'; go_simp))) | (refine wpAnyG_take (i := 3) (v := .iface 166 (.pointer (some ⟨T, 0, none⟩))) rfl ?_ ?_ ?_ (fun _ _ _ h => h) (Or.inl ⟨by rfl, ?_⟩) hS ?_; (· decide +kernel); (· decide +kernel); (· decide +kernel); (· (intro w' hS'; obtain ⟨hS0, hS1, hS2, hS3, hS4, hS5, hS6⟩ := hS'; go_simp))) | (refine wpAnyG_take (i := 4) (v := .pointer (some ⟨S, 0, none⟩)) rfl ?_ ?_ ?_ (fun _ _ _ h => h) (Or.inl ⟨by rfl, ?_⟩) hS ?_; (· decide +kernel); (· decide +kernel); (· decide +kernel); (· (intro w' hS'; obtain ⟨hS0, hS1, hS2, hS3, hS4, hS5, hS6⟩ := hS'; go_simp))) | (refine wpAnyG_take (i := 5) (v := .pointer (some ⟨S, 0, none⟩)) rfl ?_ ?_ ?_ (fun _ _ _ h => h) (Or.inl ⟨by rfl, ?_⟩) hS ?_; (· decide +kernel); (· decide +kernel); (· decide +kernel); (· (intro w' hS'; obtain ⟨hS0, hS1, hS2, hS3, hS4, hS5, hS6⟩ := hS'; go_simp))) | (refine wpAnyG_take (i := 6) (v := .pointer (some ⟨S, 1, none⟩)) rfl ?_ ?_ ?_ (fun _ _ _ h => h) (Or.inl ⟨by rfl, ?_⟩) hS ?_; (· decide +kernel); (· decide +kernel); (· decide +kernel); (· (intro w' hS'; obtain ⟨hS0, hS1, hS2, hS3, hS4, hS5, hS6⟩ := hS'; go_simp))) | (refine wpAnyG_take (i := 7) (v := .slice (some ⟨g, off, none⟩) (m + 1) c) rfl ?_ ?_ ?_ (fun _ _ _ h => h) (Or.inl ⟨by rfl, ?_⟩) hS ?_; (· decide +kernel); (· decide +kernel); (· decide +kernel); (· (intro w' hS'; obtain ⟨hS0, hS1, hS2, hS3, hS4, hS5, hS6⟩ := hS'; go_simp))) | (refine wpAnyG_take (i := 8) (v := .pointer (some ⟨S, 0, none⟩)) rfl ?_ ?_ ?_ (fun _ _ _ h => h) (Or.inl ⟨by rfl, ?_⟩) hS ?_; (· decide +kernel); (· decide +kernel); (· decide +kernel); (· (intro w' hS'; obtain ⟨hS0, hS1, hS2, hS3, hS4, hS5, hS6⟩ := hS'; go_simp))) | (refine wpAnyG_take (i := 9) (v := .pointer (some ⟨S, 0, none⟩)) rfl ?_ ?_ ?_ (fun _ _ _ h => h) (Or.inl ⟨by rfl, ?_⟩) hS ?_; (· decide +kernel); (· decide +kernel); (· decide +kernel); (· (intro w' hS'; obtain ⟨hS0, hS1, hS2, hS3, hS4, hS5, hS6⟩ := hS'; go_simp))) | (refine wpAnyG_take (i := 10) (v := .pointer (some ⟨S, 4, none⟩)) rfl ?_ ?_ ?_ (fun _ _ _ h => h) (Or.inl ⟨by rfl, ?_⟩) hS ?_; (· decide +kernel); (· decide +kernel); (· decide +kernel); (· (intro w' hS'; obtain ⟨hS0, hS1, hS2, hS3, hS4, hS5, hS6⟩ := hS'; go_simp))) | (refine wpAnyG_take (i := 11) (v := .int .i64 (o : Nat)) rfl ?_ ?_ ?_ (fun _ _ _ h => h) (Or.inl ⟨by rfl, ?_⟩) hS ?_; (· decide +kernel); (· decide +kernel); (· decide +kernel); (· (intro w' hS'; obtain ⟨hS0, hS1, hS2, hS3, hS4, hS5, hS6⟩ := hS'; go_simp))) | (refine wpAnyG_take (i := 12) (v := .pointer (some ⟨g, off + o * 4, none⟩)) rfl ?_ ?_ ?_ (fun _ _ _ h => h) (Or.inl ⟨by rfl, ?_⟩) hS ?_; (· decide +kernel); (· decide +kernel); (· decide +kernel); (· (intro w' hS'; obtain ⟨hS0, hS1, hS2, hS3, hS4, hS5, hS6⟩ := hS'; go_simp))) | (refine wpAnyG_take (i := 13) (v := .agg #[.int .i64 vk, .int .i64 vn, .string ⟨#[]⟩, .slice none 0 0]) rfl ?_ ?_ ?_ (fun _ _ _ h => h) (Or.inl ⟨by rfl, ?_⟩) hS ?_; (· decide +kernel); (· decide +kernel); (· decide +kernel); (· (intro w' hS'; obtain ⟨hS0, hS1, hS2, hS3, hS4, hS5, hS6⟩ := hS'; go_simp))) | (refine wpAnyG_take (i := 15) (v := .iface 166 (.pointer (some ⟨T, 0, none⟩))) rfl ?_ ?_ ?_ (fun _ _ _ h => h) (Or.inl ⟨by rfl, ?_⟩) hS ?_; (· decide +kernel); (· decide +kernel); (· decide +kernel); (· (intro w' hS'; obtain ⟨hS0, hS1, hS2, hS3, hS4, hS5, hS6⟩ := hS'; go_simp))) | (refine wpAnyG_take (i := 16) (v := .iface 166 (.pointer (some ⟨T, 0, none⟩))) rfl ?_ ?_ ?_ (fun _ _ _ h => h) (Or.inl ⟨by rfl, ?_⟩) hS ?_; (· decide +kernel); (· decide +kernel); (· decide +kernel); (· (intro w' hS'; obtain ⟨hS0, hS1, hS2, hS3, hS4, hS5, hS6⟩ := hS'; go_simp))))
  refine wpAnyG_ready (rs := [14]) (by decide +kernel) (by simp) ?_
  refine AllReadyG.cons rfl (fun K hK => ?_) AllReadyG.nil
  go_simp
  refine (copy_any ⟨vk, vn⟩ _).mono ?_
  rintro e w1 ⟨rfl, hb1⟩
  try dsimp only [vlV]
  obtain ⟨wd, hwd⟩ : ∃ wd, wd = w.drew := ⟨_, rfl⟩
  rw [← hwd] at hb1 hS
  have hbd : Below w.heap.size w wd := by rw [hwd]; exact (Below.refl _ _).drew
  have hb01 : Below w.heap.size w w1 := hbd.trans (hb1.mono hbd.size)
  have hS1 : OffS S T g off o (.slice (some ⟨g, off, none⟩) (m + 1) c) vk vn w1 := hS.same (hb1.block S (by rw [hwd]; exact lS)) (hb1.block g (by rw [hwd]; exact lG))
  have toy1 : ToyAt w1 B T x.ty := H.out.toy.keep (Same.any hb01) (hb01.block T lT)
  have OT := Lib.hid (offer_toy w1 B T x.ty ⟨vk, vn⟩ toy1 hBT)
  have HB1 := Lib.hid hb01
  refine hK _ _ (fun _ => hS1) ?_
  clear hK K hS hb1 hwd hbd hb01 toy1 c0 c1 c4 v0 v1 v2 v3
  have hS := hS1
  refine wpAnyG_ready (rs := [17]) (by decide +kernel) (by simp) ?_
  refine AllReadyG.cons rfl (fun K hK => ?_) AllReadyG.nil
  go_simp
  refine OT.out.mono ?_
  rintro e w2 ⟨rfl, ht2, hg2⟩
  try dsimp only
  have ht3 : ToyAt w2 B T ((offerT x.ty ⟨vk, vn⟩).getD x.ty) := ht2
  have hin2 : GrownIn own w w2 := (GrownIn.of_below HB1.out).trans (GrownIn.of_grown (own := own) hg2 (fun k e => by injection e with e; rw [← e]; exact H.out.oT)) fun b hb => .inl hb
  have bS2 := (H.out.blk.below HB1.out lS).grown hg2 (by intro e; injection e with e; exact nST e)
  have sg2 : Seg w2 56 4 (.slice (some ⟨g, off, none⟩) (m + 1) c) (m + 1) (cat vlC x.box) := HSG.out.keep fun b hb => by
    have e : g = b := by injection hb
    subst e
    exact (hg2.block g (Nat.lt_of_lt_of_le lG HB1.out.size) (by intro e; injection e with e; exact nTg e.symm)).trans (HB1.out.block g lG)
  have hsz2 := hin2.size
  clear ht2 hg2 OT HB1 hS1 hMe
  rcases hof : offerT x.ty ⟨vk, vn⟩ with _ | t
  · rw [hof] at ht3
    have e := (HE.out _ x.ty hof).1 rfl
    have HX := Lib.hid e
    have HF := Lib.hid (And.intro ht3 (And.intro hin2 (And.intro bS2 sg2)))
    have c4 := bS2.cell 4
    have f4 := bS2.frozen 4
    have l2 := bS2.lt
    simp only [acC, List.getElem?_cons_succ, List.getElem?_cons_zero] at c4
    rw [← HO.out.1] at c4
    clear e ht3 hin2 bS2 sg2 hof HE
    refine hK _ _ (fun h => absurd h (by decide)) ?_
    clear hK K
    refine wpAnyG_ready (rs := [18]) (by decide +kernel) (by simp) ?_
    refine AllReadyG.cons rfl (fun K hK => ?_) AllReadyG.nil
    go_simp
    refine hK _ _ (fun h => absurd h (by decide)) ?_
    clear hK K
    refine wpAnyG_done (by decide +kernel) ?_ _
    go_wp2_with (fail)
    go_end0
    rw [HX.out]
    obtain ⟨ht3, hin2, bS2, sg2⟩ := HF.out
    refine ⟨rfl, ⟨T, .slice (some ⟨g, off, none⟩) (m + 1) c, ?_, ?_, ?_, .inl H.out.oS, .inl H.out.oT, fun b hb => .inl (H.out.ob b hb)⟩, hin2.set H.out.oS _⟩
    · have := bS2.put 4 (.int .i64 ((o : Int) + 1))
      simpa [acC, HO.out.1] using this
    · show Seg _ _ 4 _ x.box.length (cat vlC x.box)
      rw [HO.out.2]
      exact sg2.keep fun b hb => by
        have e : g = b := by injection hb
        subst e
        exact Below.heap_setCell w2 _ _ g (fun e => nSg e.symm)
    · exact ht3.keep (Same.of_in ((GrownIn.refl (fun b => b = S) w2).set rfl _) (fun b hb _ e => by have := hB S H.out.oS; have h0 : b < B := hb; omega)) (Below.heap_setCell w2 _ _ T (fun e => nST e.symm))
  · rw [hof] at ht3
    have e := (HE.out _ t hof).2 rfl
    have HX := Lib.hid e
    obtain ⟨wd, hwd⟩ : ∃ wd, wd = w2.drew := ⟨_, rfl⟩
    have bSd : Blk wd S 80 (acC T 166 (.slice (some ⟨g, off, none⟩) (m + 1) c) x) := by rw [hwd]; exact bS2.drew
    have c1 := bSd.cell 1
    have c4 := bSd.cell 4
    simp only [acC, List.getElem?_cons_succ, List.getElem?_cons_zero] at c1 c4
    rw [← HO.out.1] at c4
    have lSd := bSd.lt
    have sgd : Seg wd 56 4 (.slice (some ⟨g, off, none⟩) (m + 1) c) (m + 1) (cat vlC x.box) := sg2.keep fun b _ => by rw [hwd]; rfl
    have DE := Lib.hid (delete_any wd g off c m o x.box HO.out.2 sgd om (by omega))
    have hind : GrownIn own w wd := by rw [hwd]; exact hin2.drew
    have htd : ToyAt wd B T t := by rw [hwd]; exact ht3.keep (Same.refl _ _) rfl
    have HF := Lib.hid (And.intro htd (And.intro hind bSd))
    have HWD := Lib.hid hwd
    clear e ht3 hin2 bS2 sg2 hof HE hwd bSd sgd hind htd
    refine hK _ _ (fun h => absurd h (by decide)) ?_
    clear hK K
    refine wpAnyG_ready (rs := [18]) (by decide +kernel) (by simp) ?_
    refine AllReadyG.cons rfl (fun K hK => ?_) AllReadyG.nil
    go_simp
    refine hK _ _ (fun h => absurd h (by decide)) ?_
    clear hK K
    refine wpAnyG_done (by decide +kernel) ?_ _
    go_wp2_with (fail)
    refine wp_region_g (S := fun W => W.cell? ⟨S, 1, none⟩ = some (.slice (some ⟨g, off, none⟩) (m + 1) c) ∧ W.cell? ⟨S, 4, none⟩ = some (.int .i64 (o : Nat))) (m := 15) (by kernel_rfl) ?_
    rw [← HWD.out]
    have hS : wd.cell? ⟨S, 1, none⟩ = some (.slice (some ⟨g, off, none⟩) (m + 1) c) ∧ wd.cell? ⟨S, 4, none⟩ = some (.int .i64 (o : Nat)) := ⟨c1, c4⟩
    have hw1 : IntKind.i64.wrap ((o : Int) + 1) = (o : Int) + 1 := IntWalk.i64_in _ (by omega)
    repeat (first | (refine wpAnyG_take (i := 0) (v := .pointer (some ⟨S, 0, none⟩)) rfl ?_ ?_ ?_ (fun _ _ _ h => h) (Or.inl ⟨by rfl, ?_⟩) hS ?_; (· decide +kernel); (· decide +kernel); (· decide +kernel); (· (intro w' hS'; obtain ⟨hS0, hS1⟩ := hS'; go_simp))) | (refine wpAnyG_take (i := 1) (v := .pointer (some ⟨S, 0, none⟩)) rfl ?_ ?_ ?_ (fun _ _ _ h => h) (Or.inl ⟨by rfl, ?_⟩) hS ?_; (· decide +kernel); (· decide +kernel); (· decide +kernel); (· (intro w' hS'; obtain ⟨hS0, hS1⟩ := hS'; go_simp))) | (refine wpAnyG_take (i := 2) (v := .pointer (some ⟨S, 0, none⟩)) rfl ?_ ?_ ?_ (fun _ _ _ h => h) (Or.inl ⟨by rfl, ?_⟩) hS ?_; (· decide +kernel); (· decide +kernel); (· decide +kernel); (· (intro w' hS'; obtain ⟨hS0, hS1⟩ := hS'; go_simp))) | (refine wpAnyG_take (i := 3) (v := .pointer (some ⟨S, 1, none⟩)) rfl ?_ ?_ ?_ (fun _ _ _ h => h) (Or.inl ⟨by rfl, ?_⟩) hS ?_; (· decide +kernel); (· decide +kernel); (· decide +kernel); (· (intro w' hS'; obtain ⟨hS0, hS1⟩ := hS'; go_simp))) | (refine wpAnyG_take (i := 4) (v := .slice (some ⟨g, off, none⟩) (m + 1) c) rfl ?_ ?_ ?_ (fun _ _ _ h => h) (Or.inl ⟨by rfl, ?_⟩) hS ?_; (· decide +kernel); (· decide +kernel); (· decide +kernel); (· (intro w' hS'; obtain ⟨hS0, hS1⟩ := hS'; go_simp))) | (refine wpAnyG_take (i := 5) (v := .pointer (some ⟨S, 0, none⟩)) rfl ?_ ?_ ?_ (fun _ _ _ h => h) (Or.inl ⟨by rfl, ?_⟩) hS ?_; (· decide +kernel); (· decide +kernel); (· decide +kernel); (· (intro w' hS'; obtain ⟨hS0, hS1⟩ := hS'; go_simp))) | (refine wpAnyG_take (i := 6) (v := .pointer (some ⟨S, 0, none⟩)) rfl ?_ ?_ ?_ (fun _ _ _ h => h) (Or.inl ⟨by rfl, ?_⟩) hS ?_; (· decide +kernel); (· decide +kernel); (· decide +kernel); (· (intro w' hS'; obtain ⟨hS0, hS1⟩ := hS'; go_simp))) | (refine wpAnyG_take (i := 7) (v := .pointer (some ⟨S, 4, none⟩)) rfl ?_ ?_ ?_ (fun _ _ _ h => h) (Or.inl ⟨by rfl, ?_⟩) hS ?_; (· decide +kernel); (· decide +kernel); (· decide +kernel); (· (intro w' hS'; obtain ⟨hS0, hS1⟩ := hS'; go_simp))) | (refine wpAnyG_take (i := 8) (v := .int .i64 (o : Nat)) rfl ?_ ?_ ?_ (fun _ _ _ h => h) (Or.inl ⟨by rfl, ?_⟩) hS ?_; (· decide +kernel); (· decide +kernel); (· decide +kernel); (· (intro w' hS'; obtain ⟨hS0, hS1⟩ := hS'; go_simp))) | (refine wpAnyG_take (i := 9) (v := .pointer (some ⟨S, 0, none⟩)) rfl ?_ ?_ ?_ (fun _ _ _ h => h) (Or.inl ⟨by rfl, ?_⟩) hS ?_; (· decide +kernel); (· decide +kernel); (· decide +kernel); (· (intro w' hS'; obtain ⟨hS0, hS1⟩ := hS'; go_simp))) | (refine wpAnyG_take (i := 10) (v := .pointer (some ⟨S, 0, none⟩)) rfl ?_ ?_ ?_ (fun _ _ _ h => h) (Or.inl ⟨by rfl, ?_⟩) hS ?_; (· decide +kernel); (· decide +kernel); (· decide +kernel); (· (intro w' hS'; obtain ⟨hS0, hS1⟩ := hS'; go_simp))) | (refine wpAnyG_take (i := 11) (v := .pointer (some ⟨S, 4, none⟩)) rfl ?_ ?_ ?_ (fun _ _ _ h => h) (Or.inl ⟨by rfl, ?_⟩) hS ?_; (· decide +kernel); (· decide +kernel); (· decide +kernel); (· (intro w' hS'; obtain ⟨hS0, hS1⟩ := hS'; go_simp))) | (refine wpAnyG_take (i := 12) (v := .int .i64 (o : Nat)) rfl ?_ ?_ ?_ (fun _ _ _ h => h) (Or.inl ⟨by rfl, ?_⟩) hS ?_; (· decide +kernel); (· decide +kernel); (· decide +kernel); (· (intro w' hS'; obtain ⟨hS0, hS1⟩ := hS'; go_simp))) | (refine wpAnyG_take (i := 13) (v := .int .i64 ((o : Int) + 1)) rfl ?_ ?_ ?_ (fun _ _ _ h => h) (Or.inl ⟨by rfl, ?_⟩) hS ?_; (· decide +kernel); (· decide +kernel); (· decide +kernel); (· (intro w' hS'; obtain ⟨hS0, hS1⟩ := hS'; go_simp))))
    clear hw1
    refine wpAnyG_ready (rs := [14]) (by decide +kernel) (by simp) ?_
    refine AllReadyG.cons rfl (fun K hK => ?_) AllReadyG.nil
    go_simp
    refine DE.out.mono ?_
    rintro e w3 ⟨rfl, hs3, hg3⟩
    try dsimp only
    have hS3 : w3.cell? ⟨S, 1, none⟩ = some (.slice (some ⟨g, off, none⟩) (m + 1) c) ∧ w3.cell? ⟨S, 4, none⟩ = some (.int .i64 (o : Nat)) := ⟨(World.cell?_of_block (w := wd) (hg3.block S lSd (by intro e; injection e with e; exact nSg e))).trans hS.1, (World.cell?_of_block (w := wd) (hg3.block S lSd (by intro e; injection e with e; exact nSg e))).trans hS.2⟩
    have bS3 := HF.out.2.2.grown hg3 (by intro e; injection e with e; exact nSg e)
    have d1 := bS3.cell 1
    have f1 := bS3.frozen 1
    have f2 := bS3.frozen 2
    have d2 := bS3.cell 2
    simp only [acC, List.getElem?_cons_succ, List.getElem?_cons_zero] at d1 d2
    have l3 := bS3.lt
    have HG := Lib.hid (And.intro hs3 (And.intro hg3 bS3))
    refine hK _ _ (fun _ => hS3) ?_
    clear hK K hS hs3 hg3 bS3 c1 c4 DE hS3
    refine wpAnyG_ready (rs := [15]) (by decide +kernel) (by simp) ?_
    refine AllReadyG.cons rfl (fun K hK => ?_) AllReadyG.nil
    go_simp
    refine hK _ _ (fun h => absurd h (by decide)) ?_
    clear hK K
    refine wpAnyG_ready (rs := [16]) (by decide +kernel) (by simp) ?_
    refine AllReadyG.cons rfl (fun K hK => ?_) AllReadyG.nil
    go_simp
    refine hK _ _ (fun h => absurd h (by decide)) ?_
    clear hK K
    refine wpAnyG_ready (rs := [17]) (by decide +kernel) (by simp) ?_
    refine AllReadyG.cons rfl (fun K hK => ?_) AllReadyG.nil
    go_simp
    refine hK _ _ (fun h => absurd h (by decide)) ?_
    clear hK K
    refine wpAnyG_done (by decide +kernel) ?_ _
    go_wp2_with (fail)
    go_end0
    rw [HX.out]
    obtain ⟨htd, hind, _⟩ := HF.out
    obtain ⟨hs3, hg3, bS3⟩ := HG.out
    have hin3 : GrownIn own w w3 := hind.trans (GrownIn.of_grown (own := own) hg3 (fun k e => by injection e with e; rw [← e]; exact og)) fun b hb => .inl hb
    have ht3 : ToyAt w3 B T t := htd.keep (Same.of_grown hg3 fun b hb _ e => by injection e with e; have := hB g og; have h0 : b < B := hb; omega) (hg3.block T htd.lt (by intro e; injection e with e; exact nTg e))
    have far : ∀ b, b ≠ S → ((w3.setCell ⟨S, 1, none⟩ (.slice (some ⟨g, off, none⟩) m c)).setCell ⟨S, 2, none⟩ (.bool false)).heap[b]? = w3.heap[b]? := fun b hb => (Below.heap_setCell _ _ _ b hb).trans (Below.heap_setCell _ _ _ b hb)
    have ob3 : ∀ b, (Value.slice (some ⟨g, off, none⟩) m c).ownBlock = some b → own b ∨ w.heap.size ≤ b := fun b hb => by
      have e : g = b := by injection hb
      rw [← e]
      exact .inl og
    refine ⟨rfl, ⟨T, .slice (some ⟨g, off, none⟩) m c, ?_, ?_, ?_, .inl H.out.oS, .inl H.out.oT, ob3⟩, (hin3.set H.out.oS _).set H.out.oS _⟩
    · have := (bS3.put 1 (.slice (some ⟨g, off, none⟩) m c)).put 2 (.bool false)
      simpa [acC] using this
    · show Seg _ _ 4 _ (x.box.eraseIdx x.off).length (cat vlC (x.box.eraseIdx x.off))
      rw [← HO.out.1, List.length_eraseIdx_of_lt hoff, HO.out.2]
      exact hs3.keep fun b hb => by
        have e : g = b := by injection hb
        subst e
        exact far g (fun e => nSg e.symm)
    · exact ht3.keep (fun b hb hl => far b (fun e => by have := hB S H.out.oS; have h0 : b < B := hb; omega)) (far T (fun e => nST e.symm))
end Go.Proofs.YtlpkgheggbcidaaDoor
