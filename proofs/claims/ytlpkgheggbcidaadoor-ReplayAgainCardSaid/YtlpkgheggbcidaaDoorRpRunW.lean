/- Contract of package replay's run: an actor goes on. -/
import Derived.Test.YtlpkgheggbcidaaDoorRpOffer
import Derived.Test.YtlpkgheggbcidaaDoorRpInv
set_option linter.unusedVariables false
namespace Go.Proofs.YtlpkgheggbcidaaDoor
open Go.RowKit Go.Mem Go.Rp Go.Maps
section
variable {w w1 w2 : World} {B T : Nat} {col : Nat → Cl} {s : Wd} {A : Option Addr} {c : Nat} {av : Value} {ps : List Value} {M : Nat} {l : List ((Nat × Nat) × Value)} {sv : Value}
/-- an actor's toy has changed -/
theorem WdW.toy (h : WdW w B T col s A c av ps M l sv) {i : Nat} {a : Ac} {S Y : Nat} {bv : Value} (ha : s.acs[i]? = some a) (hp : ps[i]? = some (.pointer (some ⟨S, 0, none⟩))) (hA : ActW w B (fun b => col b = .act i) S Y bv a) {t : Ty} (hg : w.grownBy w1 (some Y)) (ht : ToyAt w1 B Y t) (hb : Below w1.heap.size w1 w2) :
    ActW w2 B (fun b => recol col w.heap.size (.act i) b = .act i) S Y bv { a with ty := t } ∧ WdW w2 B T (recol col w.heap.size (.act i)) (setA s i { a with ty := t }) A c av ps M l sv ∧ Stp col (recol col w.heap.size (.act i)) w w2 := by
  have hin : GrownIn (fun b => col b = .act i) w w2 := (GrownIn.of_grown (own := fun b => col b = .act i) hg (fun k e => by injection e with e; rw [← e]; exact hA.oT)).trans (GrownIn.of_below (own := fun _ => False) hb) fun b e => e.elim
  have nST : S ≠ Y := by
    obtain ⟨_, _, _, _, _, hb, _⟩ := hA.toy
    exact hA.blk.ne_ hb (by decide)
  have nbY : ∀ b, bv.ownBlock = some b → b ≠ Y := fun b hb e => by
    obtain ⟨_, _, _, _, _, hb2, _⟩ := hA.toy
    exact seg_own hA.box hb2 (by decide) (e ▸ hb)
  have act : ActW w2 B (fun b => recol col w.heap.size (.act i) b = .act i) S Y bv { a with ty := t } := by
    refine ⟨(hA.blk.grown hg (fun e => nST (by injection e))).below hb (Nat.lt_of_lt_of_le hA.blk.lt hg.size), hA.box.keep fun b hb2 => (hb.block b (Nat.lt_of_lt_of_le (hA.box.lt b hb2) hg.size)).trans (hg.block b (hA.box.lt b hb2) (fun e => nbY b hb2 (by injection e))), ht.keep (Same.any hb) (hb.block Y ht.lt), ?_, ?_, fun b hb2 => ?_⟩
    · rw [recol_old hA.blk.lt]
      exact hA.oS
    · rw [recol_old hA.toy.lt]
      exact hA.oT
    · rw [recol_old (hA.box.lt b hb2)]
      exact hA.ob b hb2
  have hl := (List.getElem?_eq_some_iff.1 ha).1
  have := h.act hl hp hin ⟨_, _, act⟩
  exact ⟨act, this.1, this.2⟩
/-- cells of an actor's block have been set -/
theorem WdW.cellsA (h : WdW w B T col s A c av ps M l sv) {i : Nat} {a a' : Ac} {S Y : Nat} {bv : Value} (ha : s.acs[i]? = some a) (hp : ps[i]? = some (.pointer (some ⟨S, 0, none⟩))) (hA : ActW w B (fun b => col b = .act i) S Y bv a) (hg : w.grownBy w1 (some S)) (hb : Blk w1 S 80 (acC Y 166 bv a')) (e1 : a'.box = a.box) (e2 : a'.ty = a.ty) :
    WdW w1 B T (recol col w.heap.size (.act i)) (setA s i a') A c av ps M l sv ∧ Stp col (recol col w.heap.size (.act i)) w w1 := by
  have hin : GrownIn (fun b => col b = .act i) w w1 := GrownIn.of_grown (own := fun b => col b = .act i) hg (fun k e => by injection e with e; rw [← e]; exact hA.oS)
  have nST : S ≠ Y := by
    obtain ⟨_, _, _, _, _, hb, _⟩ := hA.toy
    exact hA.blk.ne_ hb (by decide)
  have nbS : ∀ b, bv.ownBlock = some b → b ≠ S := fun b hb e => seg_own hA.box hA.blk (by decide) (e ▸ hb)
  have hBS : B ≤ S := h.own (k := .act i) (by simp) S hA.oS
  have hl := (List.getElem?_eq_some_iff.1 ha).1
  refine h.act hl hp hin ⟨Y, bv, hb, by rw [e1]; exact hA.box.keep fun b hb2 => hg.block b (hA.box.lt b hb2) (fun e => nbS b hb2 (by injection e)), by rw [e2]; exact hA.toy.keep (Same.of_grown hg fun b hb _ e => by injection e with e; have h0 : b < B := hb; omega) (hg.block Y hA.toy.lt (fun e => nST (by injection e with e; exact e.symm))), ?_, ?_, fun b hb2 => ?_⟩
  · rw [recol_old hA.blk.lt]
    exact hA.oS
  · rw [recol_old hA.toy.lt]
    exact hA.oT
  · rw [recol_old (hA.box.lt b hb2)]
    exact hA.ob b hb2
end
set_option maxRecDepth 100000 in
set_option maxHeartbeats 4000000 in
theorem wrun_put (w : World) (B T : Nat) (col : Nat → Cl) (s : Wd) {A : Option Addr} {c : Nat} {av : Value} {ps : List Value} {M : Nat} {l : List ((Nat × Nat) × Value)} {sv : Value} (h : WdW w B T col s A c av ps M l sv) {n : Nat} (hI : Inv s n) (hn : n ≤ 400000) (i : Nat) (a : Ac) (S : Nat) (hp : ps[i]? = some (.pointer (some ⟨S, 0, none⟩))) (ha : s.acs[i]? = some a) (t : Ty) (o : Ot) (hr : Go.Rp.runT a.ty = (t, o)) (hk : o.kd = 3) :
    Calls Tryd.prog 29 #[.pointer (some ⟨T, 0, none⟩), .int .i64 ((i : Int) + 1), .pointer (some ⟨S, 0, none⟩)] w (WPost w B T col (putF (setA s i { a with ty := t }) ((i : Int) + 1) o.nm o.vl) (.tuple #[])) := by
  have hi30 : i < 30 := by have := (List.getElem?_eq_some_iff.1 ha).1; have := hI.acs; omega
  obtain ⟨S', hp', Y, bv, hA⟩ := h.acts.2 i a ha
  obtain rfl : S = S' := by
    rw [hp] at hp'
    injection hp' with hp'
    injection hp' with hp'
    injection hp' with hp'
    injection hp' with hp'
  have htx := (runT_tx (hI.tx i a ha)).2
  have h4a : o.kd = 4 → ∃ (q : UInt8) (v : Vl), o.tx = [q] ∧ 97 ≤ q.toNat ∧ o.ar = [v] := fun e => by
    obtain ⟨_, _, _, _, _, _, _, h4⟩ := hA.toy
    have := runT_four h4 (by rw [hr]; exact e)
    rw [hr] at this
    exact this
  rw [hr] at htx
  have RN := run_any w B Y a.ty hA.toy (h.own (k := .act i) (by simp) Y hA.oT)
  rw [hr] at RN
  have c0 := hA.blk.cell 0
  simp only [acC, List.getElem?_cons_zero] at c0
  have lS := hA.blk.lt
  have hM := fun f W => meth_run f Y W
  obtain ⟨kd, nm, tx, ⟨vk, vn⟩, ar⟩ := o
  simp only at hk h4a htx RN
  subst hk
  have HRN := Lib.hid RN
  have H := Lib.hid (And.intro h (And.intro hA (And.intro hp ha)))
  have HH := Lib.hid (And.intro hr (And.intro hI (And.intro h4a htx)))
  clear h hI hp hp' ha hr h4a hA htx RN
  go_enter Tryd.func29, Tryd.ntmps29
  go_wp2_with (fail)
  refine HRN.out.mono ?_
  unfold RunPost
  rintro e w1 ⟨la, rfl, ht1, hg1, ⟨LA, ln, lc, rfl⟩, h41⟩
  simp only [outV, bst]
  obtain ⟨TX, hTX⟩ : ∃ TX : ByteArray, TX = ⟨tx.toArray⟩ := ⟨_, rfl⟩
  rw [← hTX]
  obtain ⟨w2, hw2⟩ : ∃ w2, w2 = w1.alloc (.cells #[.int .i64 3, .int .i64 nm, .string TX, .int .i64 vk, .int .i64 vn, .string ⟨#[]⟩, .slice none 0 0, .slice LA ln lc] 101) := ⟨_, rfl⟩
  obtain ⟨R, hR⟩ : ∃ R, R = w1.heap.size := ⟨_, rfl⟩
  have hb12 : Below w1.heap.size w1 w2 := by rw [hw2]; exact (Below.refl _ _).alloc (Nat.le_refl _) _
  have bR : Blk w2 R 101 (#[.int .i64 3, .int .i64 nm, .string TX, .int .i64 vk, .int .i64 vn, .string ⟨#[]⟩, .slice none 0 0, .slice LA ln lc]).toList := by rw [hw2, hR]; exact Blk.new w1 _ _
  simp only [] at bR
  obtain ⟨hA2, h2, st2⟩ := H.out.1.toy H.out.2.2.2 H.out.2.2.1 H.out.2.1 hg1 ht1 hb12
  have r0 := bR.cell 0
  have r1 := bR.cell 1
  have r2 := bR.cell 2
  have r3 := bR.cell 3
  have r4 := bR.cell 4
  have r5 := bR.cell 5
  have r6 := bR.cell 6
  have r7 := bR.cell 7
  simp only [List.getElem?_cons_succ, List.getElem?_cons_zero] at r0 r1 r2 r3 r4 r5 r6 r7
  have lR := bR.lt
  have HW2 := Lib.hid hw2
  have HR := Lib.hid hR
  have HT := Lib.hid hTX
  have H2 := Lib.hid (And.intro h2 (And.intro hA2 (And.intro st2 bR)))
  have H41 := Lib.hid (And.intro h41 (And.intro hg1 hb12))
  clear hw2 hR hTX ht1 hg1 h41 hb12 bR hA2 h2 st2 hM HRN c0 lS
  have PU := put_any w2 B T _ _ ⟨_, _, _, _, _, _, _, H2.out.1⟩ (i + 1) (by omega) nm ⟨vk, vn⟩ (by have := HH.out.2.1.acs; simpa [setA] using this) (fun k => by have := HH.out.2.1.ways k; have e : wayF (setA s i { a with ty := t }) k = wayF s k := rfl; rw [e]; omega)
  rw [show ((i + 1 : Nat) : Int) = (i : Int) + 1 by simp] at PU
  unfold vlV at PU
  have HP := Lib.hid PU
  clear PU
  go_wp2_with (fail)
  rw [← HW2.out, ← HR.out]
  refine HP.out.mono ?_
  rintro e w3 ⟨k, rfl, col', h3, st3⟩
  have HF := Lib.hid (And.intro h3 st3)
  clear h3 st3
  have HQ := fun (j : Nat) => r0
  clear HQ
  go_wp2_with (fail)
  go_end0
  exact ⟨rfl, col', HF.out.1, H2.out.2.2.1.trans HF.out.2⟩
set_option maxRecDepth 100000 in
set_option maxHeartbeats 4000000 in
theorem wrun_spawn (w : World) (B T : Nat) (col : Nat → Cl) (s : Wd) {A : Option Addr} {c : Nat} {av : Value} {ps : List Value} {M : Nat} {l : List ((Nat × Nat) × Value)} {sv : Value} (h : WdW w B T col s A c av ps M l sv) {n : Nat} (hI : Inv s n) (hn : n ≤ 400000) (i : Nat) (a : Ac) (S : Nat) (hp : ps[i]? = some (.pointer (some ⟨S, 0, none⟩))) (ha : s.acs[i]? = some a) (t : Ty) (o : Ot) (hr : Go.Rp.runT a.ty = (t, o)) (hk : o.kd = 4) :
    Calls Tryd.prog 29 #[.pointer (some ⟨T, 0, none⟩), .int .i64 ((i : Int) + 1), .pointer (some ⟨S, 0, none⟩)] w (WPost w B T col (setA (spawnF (setA s i { a with ty := t }) o.tx o.ar).1 i { a with ty := giveT t ⟨6, (spawnF (setA s i { a with ty := t }) o.tx o.ar).2⟩ }) (.tuple #[])) := by
  have hi30 : i < 30 := by have := (List.getElem?_eq_some_iff.1 ha).1; have := hI.acs; omega
  obtain ⟨S', hp', Y, bv, hA⟩ := h.acts.2 i a ha
  obtain rfl : S = S' := by
    rw [hp] at hp'
    injection hp' with hp'
    injection hp' with hp'
    injection hp' with hp'
    injection hp' with hp'
  have htx := (runT_tx (hI.tx i a ha)).2
  have h4a : o.kd = 4 → ∃ (q : UInt8) (v : Vl), o.tx = [q] ∧ 97 ≤ q.toNat ∧ o.ar = [v] := fun e => by
    obtain ⟨_, _, _, _, _, _, _, h4⟩ := hA.toy
    have := runT_four h4 (by rw [hr]; exact e)
    rw [hr] at this
    exact this
  rw [hr] at htx
  have RN := run_any w B Y a.ty hA.toy (h.own (k := .act i) (by simp) Y hA.oT)
  rw [hr] at RN
  have c0 := hA.blk.cell 0
  simp only [acC, List.getElem?_cons_zero] at c0
  have lS := hA.blk.lt
  have hM := fun f W => meth_run f Y W
  obtain ⟨kd, nm, tx, ⟨vk, vn⟩, ar⟩ := o
  simp only at hk h4a htx RN
  subst hk
  have HRN := Lib.hid RN
  have H := Lib.hid (And.intro h (And.intro hA (And.intro hp ha)))
  have HH := Lib.hid (And.intro hr (And.intro hI (And.intro h4a htx)))
  clear h hI hp hp' ha hr h4a hA htx RN
  go_enter Tryd.func29, Tryd.ntmps29
  go_wp2_with (fail)
  refine HRN.out.mono ?_
  unfold RunPost
  rintro e w1 ⟨la, rfl, ht1, hg1, ⟨LA, ln, lc, rfl⟩, h41⟩
  simp only [outV, bst]
  obtain ⟨TX, hTX⟩ : ∃ TX : ByteArray, TX = ⟨tx.toArray⟩ := ⟨_, rfl⟩
  rw [← hTX]
  obtain ⟨w2, hw2⟩ : ∃ w2, w2 = w1.alloc (.cells #[.int .i64 4, .int .i64 nm, .string TX, .int .i64 vk, .int .i64 vn, .string ⟨#[]⟩, .slice none 0 0, .slice LA ln lc] 101) := ⟨_, rfl⟩
  obtain ⟨R, hR⟩ : ∃ R, R = w1.heap.size := ⟨_, rfl⟩
  have hb12 : Below w1.heap.size w1 w2 := by rw [hw2]; exact (Below.refl _ _).alloc (Nat.le_refl _) _
  have bR : Blk w2 R 101 (#[.int .i64 4, .int .i64 nm, .string TX, .int .i64 vk, .int .i64 vn, .string ⟨#[]⟩, .slice none 0 0, .slice LA ln lc]).toList := by rw [hw2, hR]; exact Blk.new w1 _ _
  simp only [] at bR
  obtain ⟨hA2, h2, st2⟩ := H.out.1.toy H.out.2.2.2 H.out.2.2.1 H.out.2.1 hg1 ht1 hb12
  have r0 := bR.cell 0
  have r1 := bR.cell 1
  have r2 := bR.cell 2
  have r3 := bR.cell 3
  have r4 := bR.cell 4
  have r5 := bR.cell 5
  have r6 := bR.cell 6
  have r7 := bR.cell 7
  simp only [List.getElem?_cons_succ, List.getElem?_cons_zero] at r0 r1 r2 r3 r4 r5 r6 r7
  have lR := bR.lt
  have HW2 := Lib.hid hw2
  have HR := Lib.hid hR
  have HT := Lib.hid hTX
  have H2 := Lib.hid (And.intro h2 (And.intro hA2 (And.intro st2 bR)))
  have H41 := Lib.hid (And.intro h41 (And.intro hg1 hb12))
  clear hw2 hR hTX ht1 hg1 h41 hb12 bR hA2 h2 st2 hM HRN c0 lS
  obtain ⟨q, v, rfl, hq, rfl⟩ := HH.out.2.2.1 (by first | trivial | rfl)
  obtain ⟨g, v', ela, ev, hgw, bG⟩ := H41.out.1 (by first | trivial | rfl)
  injection ev with ev _
  subst ev
  injection ela with e1 e2 e3
  subst e1 e2 e3
  have rdG : Reads w2 Any 4 (some ⟨g, 0, none⟩) 1 (cat vlC [v]) := by
    have bG2 := bG.below H41.out.2.2 bG.lt
    refine ⟨rfl, fun _ => ⟨g, 0, rfl, trivial, fun j u hu => ?_⟩⟩
    rw [bG2.cell, Nat.zero_add]
    rw [cat_one] at hu
    exact hu
  have SP := spawn_any w2 B T _ _ H2.out.1 q hq (some ⟨g, 0, none⟩) 1 1 [v] rfl (by simp) rdG (by omega) (by omega) (by have := HH.out.2.1.acs; simpa [setA] using this)
  obtain ⟨s2, n2, hs2⟩ : ∃ s2 n2, spawnF (setA s i { a with ty := t }) [q] [v] = (s2, n2) := ⟨_, _, rfl⟩
  rw [hs2] at SP
  have hat2 : s2.acs[i]? = some { a with ty := t } := by
    have hl := (List.getElem?_eq_some_iff.1 H.out.2.2.2).1
    have e1 : (setA s i { a with ty := t }).acs[i]? = some { a with ty := t } := by simp [setA, hl]
    have : s2 = (spawnF (setA s i { a with ty := t }) [q] [v]).1 := by rw [hs2]
    rw [this]
    unfold spawnF
    split
    · exact e1
    · split
      · exact e1
      · simp only
        rw [List.getElem?_append_left (List.getElem?_eq_some_iff.1 e1).1]
        exact e1
  have HP := Lib.hid SP
  have HS2 := Lib.hid (And.intro hs2 hat2)
  have hTQ : (⟨[q].toArray⟩ : ByteArray) = ⟨#[q]⟩ := rfl
  have hTX2 : TX = ⟨#[q]⟩ := by rw [HT.out]
  subst hTX2
  clear SP hs2 hat2 rdG bG hgw hq hTQ
  go_wp2_with (fail)
  rw [← HW2.out, ← HR.out]
  refine HP.out.mono ?_
  rintro e w3 ⟨k, rfl, hk, col3, A3, c3, av3, ps3, M3, l3, sv3, h3, hpp, st3⟩
  simp only at hk h3
  have hp3 : ps3[i]? = some (.pointer (some ⟨S, 0, none⟩)) := by
    obtain ⟨z, rfl⟩ := hpp
    rw [List.getElem?_append_left (List.getElem?_eq_some_iff.1 H.out.2.2.1).1]
    exact H.out.2.2.1
  obtain ⟨S', hp', Y3, bv3, hA3⟩ := h3.acts.2 i _ HS2.out.2
  obtain rfl : S = S' := by
    rw [hp3] at hp'
    injection hp' with hp'
    injection hp' with hp'
    injection hp' with hp'
    injection hp' with hp'
  have GV := Lib.hid (give_any w3 B Y3 t ⟨6, n2⟩ hA3.toy (h3.own (k := .act i) (by simp) Y3 hA3.oT))
  have d0 := hA3.blk.cell 0
  simp only [acC, List.getElem?_cons_zero] at d0
  have lS3 := hA3.blk.lt
  have hM := fun f W => meth_give f Y3 W
  have H3 := Lib.hid (And.intro h3 (And.intro hp3 (And.intro hA3 st3)))
  have hfin : ∀ e w4, ToyPost w3 B Y3 (giveT t ⟨6, n2⟩) (.tuple #[]) e w4 → e = .returned (.tuple #[]) ∧ WPost w B T col (setA (spawnF (setA s i { a with ty := t }) [q] [v]).1 i { a with ty := giveT t ⟨6, (spawnF (setA s i { a with ty := t }) [q] [v]).2⟩ }) (.tuple #[]) (.returned (.tuple #[])) w4 := by
    rintro e w4 ⟨rfl, ht4, hg4⟩
    rw [HS2.out.1]
    have := H3.out.1.toy HS2.out.2 H3.out.2.1 H3.out.2.2.1 hg4 ht4 (Below.refl _ _)
    exact ⟨rfl, rfl, _, ⟨_, _, _, _, _, _, _, this.2.1⟩, (H2.out.2.2.1.trans H3.out.2.2.2).trans this.2.2⟩
  have HF := Lib.hid hfin
  clear hfin h3 hpp hp3 hp' hA3 st3 HP
  unfold vlV at GV
  by_cases hk0 : k = 0
  · subst hk0
    clear hk
    go_wp2_with (fail)
    refine GV.out.mono ?_
    intro e w4 hh
    obtain ⟨rfl, hW⟩ := HF.out e w4 hh
    have HW := Lib.hid hW
    clear hW hh
    go_wp2_with (fail)
    go_end0
    exact HW.out
  · have hn0 := hk hk0
    have hk1 : (k == 0) = false := by simpa using hk0
    have hk2 : (k != 0) = true := by simpa using hk0
    subst hn0
    clear hk hk0
    go_wp2_with (fail)
    refine GV.out.mono ?_
    intro e w4 hh
    obtain ⟨rfl, hW⟩ := HF.out e w4 hh
    have HW := Lib.hid hW
    clear hW hh
    go_wp2_with (fail)
    go_end0
    exact HW.out
set_option maxRecDepth 100000 in
set_option maxHeartbeats 4000000 in
theorem wrun_wait (w : World) (B T : Nat) (col : Nat → Cl) (s : Wd) {A : Option Addr} {c : Nat} {av : Value} {ps : List Value} {M : Nat} {l : List ((Nat × Nat) × Value)} {sv : Value} (h : WdW w B T col s A c av ps M l sv) {n : Nat} (hI : Inv s n) (hn : n ≤ 400000) (i : Nat) (a : Ac) (S : Nat) (hp : ps[i]? = some (.pointer (some ⟨S, 0, none⟩))) (ha : s.acs[i]? = some a) (t : Ty) (o : Ot) (hr : Go.Rp.runT a.ty = (t, o)) (hk : o.kd = 7) :
    Calls Tryd.prog 29 #[.pointer (some ⟨T, 0, none⟩), .int .i64 ((i : Int) + 1), .pointer (some ⟨S, 0, none⟩)] w (WPost w B T col (setA s i { a with ty := t, waiting := true, ticks := o.nm, off := 0 }) (.tuple #[])) := by
  have hi30 : i < 30 := by have := (List.getElem?_eq_some_iff.1 ha).1; have := hI.acs; omega
  obtain ⟨S', hp', Y, bv, hA⟩ := h.acts.2 i a ha
  obtain rfl : S = S' := by
    rw [hp] at hp'
    injection hp' with hp'
    injection hp' with hp'
    injection hp' with hp'
    injection hp' with hp'
  have htx := (runT_tx (hI.tx i a ha)).2
  have h4a : o.kd = 4 → ∃ (q : UInt8) (v : Vl), o.tx = [q] ∧ 97 ≤ q.toNat ∧ o.ar = [v] := fun e => by
    obtain ⟨_, _, _, _, _, _, _, h4⟩ := hA.toy
    have := runT_four h4 (by rw [hr]; exact e)
    rw [hr] at this
    exact this
  rw [hr] at htx
  have RN := run_any w B Y a.ty hA.toy (h.own (k := .act i) (by simp) Y hA.oT)
  rw [hr] at RN
  have c0 := hA.blk.cell 0
  simp only [acC, List.getElem?_cons_zero] at c0
  have lS := hA.blk.lt
  have hM := fun f W => meth_run f Y W
  obtain ⟨kd, nm, tx, ⟨vk, vn⟩, ar⟩ := o
  simp only at hk h4a htx RN
  subst hk
  have HRN := Lib.hid RN
  have H := Lib.hid (And.intro h (And.intro hA (And.intro hp ha)))
  have HH := Lib.hid (And.intro hr (And.intro hI (And.intro h4a htx)))
  clear h hI hp hp' ha hr h4a hA htx RN
  go_enter Tryd.func29, Tryd.ntmps29
  go_wp2_with (fail)
  refine HRN.out.mono ?_
  unfold RunPost
  rintro e w1 ⟨la, rfl, ht1, hg1, ⟨LA, ln, lc, rfl⟩, h41⟩
  simp only [outV, bst]
  obtain ⟨TX, hTX⟩ : ∃ TX : ByteArray, TX = ⟨tx.toArray⟩ := ⟨_, rfl⟩
  rw [← hTX]
  obtain ⟨w2, hw2⟩ : ∃ w2, w2 = w1.alloc (.cells #[.int .i64 7, .int .i64 nm, .string TX, .int .i64 vk, .int .i64 vn, .string ⟨#[]⟩, .slice none 0 0, .slice LA ln lc] 101) := ⟨_, rfl⟩
  obtain ⟨R, hR⟩ : ∃ R, R = w1.heap.size := ⟨_, rfl⟩
  have hb12 : Below w1.heap.size w1 w2 := by rw [hw2]; exact (Below.refl _ _).alloc (Nat.le_refl _) _
  have bR : Blk w2 R 101 (#[.int .i64 7, .int .i64 nm, .string TX, .int .i64 vk, .int .i64 vn, .string ⟨#[]⟩, .slice none 0 0, .slice LA ln lc]).toList := by rw [hw2, hR]; exact Blk.new w1 _ _
  simp only [] at bR
  obtain ⟨hA2, h2, st2⟩ := H.out.1.toy H.out.2.2.2 H.out.2.2.1 H.out.2.1 hg1 ht1 hb12
  have r0 := bR.cell 0
  have r1 := bR.cell 1
  have r2 := bR.cell 2
  have r3 := bR.cell 3
  have r4 := bR.cell 4
  have r5 := bR.cell 5
  have r6 := bR.cell 6
  have r7 := bR.cell 7
  simp only [List.getElem?_cons_succ, List.getElem?_cons_zero] at r0 r1 r2 r3 r4 r5 r6 r7
  have lR := bR.lt
  have HW2 := Lib.hid hw2
  have HR := Lib.hid hR
  have HT := Lib.hid hTX
  have H2 := Lib.hid (And.intro h2 (And.intro hA2 (And.intro st2 bR)))
  have H41 := Lib.hid (And.intro h41 (And.intro hg1 hb12))
  clear hw2 hR hTX ht1 hg1 h41 hb12 bR hA2 h2 st2 hM HRN c0 lS
  have b2 := H2.out.2.1.blk
  have s2 := b2.cell 2
  have g2 := b2.frozen 2
  have s3 := b2.cell 3
  have g3 := b2.frozen 3
  have s4 := b2.cell 4
  have g4 := b2.frozen 4
  have s5 := b2.cell 5
  have g5 := b2.frozen 5
  have s6 := b2.cell 6
  have g6 := b2.frozen 6
  simp only [acC, bst, List.getElem?_cons_succ, List.getElem?_cons_zero] at s2 s3 s4 s5 s6
  have lS2 := b2.lt
  have hne : R ≠ S := fun e => H2.out.2.2.2.ne_ b2 (by decide) e
  have hne2 : S ≠ R := fun e => hne e.symm
  have FIN : ∀ W, w2.grownBy W (some S) → Blk W S 80 (acC Y 166 bv { a with ty := t, waiting := true, ticks := nm, off := 0 }) → WPost w B T col (setA s i { a with ty := t, waiting := true, ticks := nm, off := 0 }) (.tuple #[]) (.returned (.tuple #[])) W := fun W hg hb => by
    have hl := (List.getElem?_eq_some_iff.1 H.out.2.2.2).1
    have e1 : (setA s i { a with ty := t }).acs[i]? = some { a with ty := t } := by simp [setA, hl]
    have := H2.out.1.cellsA e1 H.out.2.2.1 H2.out.2.1 hg hb rfl rfl
    have e2 : setA (setA s i { a with ty := t }) i { a with ty := t, waiting := true, ticks := nm, off := 0 } = setA s i { a with ty := t, waiting := true, ticks := nm, off := 0 } := by simp [setA]
    rw [e2] at this
    exact ⟨rfl, _, ⟨_, _, _, _, _, _, _, this.1⟩, H2.out.2.2.1.trans this.2⟩
  have HF := Lib.hid FIN
  clear FIN b2
  go_wp2_with (fail)
  rw [← HW2.out, ← HR.out]
  go_region
  go_wp2_with (fail)
  go_end0
  refine HF.out _ (grownBy_drew (grown_put (grown_put (grown_put (World.grownBy.refl w2 _) 2 _) 3 _) 4 _)) ?_
  have := (((H2.out.2.1.blk.put 2 (.bool true)).put 3 (.int .i64 nm)).put 4 (.int .i64 0)).drew
  simpa [acC, bst] using this
set_option maxRecDepth 100000 in
set_option maxHeartbeats 4000000 in
theorem wrun_fail (w : World) (B T : Nat) (col : Nat → Cl) (s : Wd) {A : Option Addr} {c : Nat} {av : Value} {ps : List Value} {M : Nat} {l : List ((Nat × Nat) × Value)} {sv : Value} (h : WdW w B T col s A c av ps M l sv) {n : Nat} (hI : Inv s n) (hn : n ≤ 400000) (i : Nat) (a : Ac) (S : Nat) (hp : ps[i]? = some (.pointer (some ⟨S, 0, none⟩))) (ha : s.acs[i]? = some a) (t : Ty) (o : Ot) (hr : Go.Rp.runT a.ty = (t, o)) (hk : o.kd = 9) :
    Calls Tryd.prog 29 #[.pointer (some ⟨T, 0, none⟩), .int .i64 ((i : Int) + 1), .pointer (some ⟨S, 0, none⟩)] w (WPost w B T col (setA s i { a with ty := t, ended := true, how := [102, 97, 105, 108, 101, 100, 32] ++ o.tx }) (.tuple #[])) := by
  have hi30 : i < 30 := by have := (List.getElem?_eq_some_iff.1 ha).1; have := hI.acs; omega
  obtain ⟨S', hp', Y, bv, hA⟩ := h.acts.2 i a ha
  obtain rfl : S = S' := by
    rw [hp] at hp'
    injection hp' with hp'
    injection hp' with hp'
    injection hp' with hp'
    injection hp' with hp'
  have htx := (runT_tx (hI.tx i a ha)).2
  have h4a : o.kd = 4 → ∃ (q : UInt8) (v : Vl), o.tx = [q] ∧ 97 ≤ q.toNat ∧ o.ar = [v] := fun e => by
    obtain ⟨_, _, _, _, _, _, _, h4⟩ := hA.toy
    have := runT_four h4 (by rw [hr]; exact e)
    rw [hr] at this
    exact this
  rw [hr] at htx
  have RN := run_any w B Y a.ty hA.toy (h.own (k := .act i) (by simp) Y hA.oT)
  rw [hr] at RN
  have c0 := hA.blk.cell 0
  simp only [acC, List.getElem?_cons_zero] at c0
  have lS := hA.blk.lt
  have hM := fun f W => meth_run f Y W
  obtain ⟨kd, nm, tx, ⟨vk, vn⟩, ar⟩ := o
  simp only at hk h4a htx RN
  subst hk
  have HRN := Lib.hid RN
  have H := Lib.hid (And.intro h (And.intro hA (And.intro hp ha)))
  have HH := Lib.hid (And.intro hr (And.intro hI (And.intro h4a htx)))
  clear h hI hp hp' ha hr h4a hA htx RN
  go_enter Tryd.func29, Tryd.ntmps29
  go_wp2_with (fail)
  refine HRN.out.mono ?_
  unfold RunPost
  rintro e w1 ⟨la, rfl, ht1, hg1, ⟨LA, ln, lc, rfl⟩, h41⟩
  simp only [outV, bst]
  obtain ⟨TX, hTX⟩ : ∃ TX : ByteArray, TX = ⟨tx.toArray⟩ := ⟨_, rfl⟩
  rw [← hTX]
  obtain ⟨w2, hw2⟩ : ∃ w2, w2 = w1.alloc (.cells #[.int .i64 9, .int .i64 nm, .string TX, .int .i64 vk, .int .i64 vn, .string ⟨#[]⟩, .slice none 0 0, .slice LA ln lc] 101) := ⟨_, rfl⟩
  obtain ⟨R, hR⟩ : ∃ R, R = w1.heap.size := ⟨_, rfl⟩
  have hb12 : Below w1.heap.size w1 w2 := by rw [hw2]; exact (Below.refl _ _).alloc (Nat.le_refl _) _
  have bR : Blk w2 R 101 (#[.int .i64 9, .int .i64 nm, .string TX, .int .i64 vk, .int .i64 vn, .string ⟨#[]⟩, .slice none 0 0, .slice LA ln lc]).toList := by rw [hw2, hR]; exact Blk.new w1 _ _
  simp only [] at bR
  obtain ⟨hA2, h2, st2⟩ := H.out.1.toy H.out.2.2.2 H.out.2.2.1 H.out.2.1 hg1 ht1 hb12
  have r0 := bR.cell 0
  have r1 := bR.cell 1
  have r2 := bR.cell 2
  have r3 := bR.cell 3
  have r4 := bR.cell 4
  have r5 := bR.cell 5
  have r6 := bR.cell 6
  have r7 := bR.cell 7
  simp only [List.getElem?_cons_succ, List.getElem?_cons_zero] at r0 r1 r2 r3 r4 r5 r6 r7
  have lR := bR.lt
  have HW2 := Lib.hid hw2
  have HR := Lib.hid hR
  have HT := Lib.hid hTX
  have H2 := Lib.hid (And.intro h2 (And.intro hA2 (And.intro st2 bR)))
  have H41 := Lib.hid (And.intro h41 (And.intro hg1 hb12))
  clear hw2 hR hTX ht1 hg1 h41 hb12 bR hA2 h2 st2 hM HRN c0 lS
  have b2 := H2.out.2.1.blk
  have s2 := b2.cell 2
  have g2 := b2.frozen 2
  have s3 := b2.cell 3
  have g3 := b2.frozen 3
  have s4 := b2.cell 4
  have g4 := b2.frozen 4
  have s5 := b2.cell 5
  have g5 := b2.frozen 5
  have s6 := b2.cell 6
  have g6 := b2.frozen 6
  simp only [acC, bst, List.getElem?_cons_succ, List.getElem?_cons_zero] at s2 s3 s4 s5 s6
  have lS2 := b2.lt
  have hne : R ≠ S := fun e => H2.out.2.2.2.ne_ b2 (by decide) e
  have hne2 : S ≠ R := fun e => hne e.symm
  have FIN : ∀ W, w2.grownBy W (some S) → Blk W S 80 (acC Y 166 bv { a with ty := t, ended := true, how := [102, 97, 105, 108, 101, 100, 32] ++ tx }) → WPost w B T col (setA s i { a with ty := t, ended := true, how := [102, 97, 105, 108, 101, 100, 32] ++ tx }) (.tuple #[]) (.returned (.tuple #[])) W := fun W hg hb => by
    have hl := (List.getElem?_eq_some_iff.1 H.out.2.2.2).1
    have e1 : (setA s i { a with ty := t }).acs[i]? = some { a with ty := t } := by simp [setA, hl]
    have := H2.out.1.cellsA e1 H.out.2.2.1 H2.out.2.1 hg hb rfl rfl
    have e2 : setA (setA s i { a with ty := t }) i { a with ty := t, ended := true, how := [102, 97, 105, 108, 101, 100, 32] ++ tx } = setA s i { a with ty := t, ended := true, how := [102, 97, 105, 108, 101, 100, 32] ++ tx } := by simp [setA]
    rw [e2] at this
    exact ⟨rfl, _, ⟨_, _, _, _, _, _, _, this.1⟩, H2.out.2.2.1.trans this.2⟩
  have HF := Lib.hid FIN
  clear FIN b2
  go_wp2_with (fail)
  rw [← HW2.out, ← HR.out]
  have hsz : ¬ 9223372036854775807 < 7 + TX.size := by have := HH.out.2.2.2; rw [HT.out]; simp [ByteArray.size]; omega
  go_region
  go_wp2_with (fail)
  go_end0
  refine HF.out _ (grownBy_drew (grown_put (grown_put (World.grownBy.refl w2 _) 5 _) 6 _)) ?_
  have := ((H2.out.2.1.blk.put 5 (.bool true)).put 6 (.string (⟨#[102, 97, 105, 108, 101, 100, 32]⟩ ++ TX))).drew
  have e : (⟨#[102, 97, 105, 108, 101, 100, 32]⟩ ++ TX : ByteArray) = ⟨([102, 97, 105, 108, 101, 100, 32] ++ tx).toArray⟩ := by
    rw [HT.out]
    apply ByteArray.ext
    simp
  rw [e] at this ⊢
  simpa [acC, bst] using this
set_option maxRecDepth 100000 in
set_option maxHeartbeats 4000000 in
theorem wrun_end (w : World) (B T : Nat) (col : Nat → Cl) (s : Wd) {A : Option Addr} {c : Nat} {av : Value} {ps : List Value} {M : Nat} {l : List ((Nat × Nat) × Value)} {sv : Value} (h : WdW w B T col s A c av ps M l sv) {n : Nat} (hI : Inv s n) (hn : n ≤ 400000) (i : Nat) (a : Ac) (S : Nat) (hp : ps[i]? = some (.pointer (some ⟨S, 0, none⟩))) (ha : s.acs[i]? = some a) (t : Ty) (o : Ot) (hr : Go.Rp.runT a.ty = (t, o)) (hk : o.kd = 8) :
    Calls Tryd.prog 29 #[.pointer (some ⟨T, 0, none⟩), .int .i64 ((i : Int) + 1), .pointer (some ⟨S, 0, none⟩)] w (WPost w B T col (setA s i { a with ty := t, ended := true, how := [101, 110, 100, 101, 100] }) (.tuple #[])) := by
  have hi30 : i < 30 := by have := (List.getElem?_eq_some_iff.1 ha).1; have := hI.acs; omega
  obtain ⟨S', hp', Y, bv, hA⟩ := h.acts.2 i a ha
  obtain rfl : S = S' := by
    rw [hp] at hp'
    injection hp' with hp'
    injection hp' with hp'
    injection hp' with hp'
    injection hp' with hp'
  have htx := (runT_tx (hI.tx i a ha)).2
  have h4a : o.kd = 4 → ∃ (q : UInt8) (v : Vl), o.tx = [q] ∧ 97 ≤ q.toNat ∧ o.ar = [v] := fun e => by
    obtain ⟨_, _, _, _, _, _, _, h4⟩ := hA.toy
    have := runT_four h4 (by rw [hr]; exact e)
    rw [hr] at this
    exact this
  rw [hr] at htx
  have RN := run_any w B Y a.ty hA.toy (h.own (k := .act i) (by simp) Y hA.oT)
  rw [hr] at RN
  have c0 := hA.blk.cell 0
  simp only [acC, List.getElem?_cons_zero] at c0
  have lS := hA.blk.lt
  have hM := fun f W => meth_run f Y W
  obtain ⟨kd, nm, tx, ⟨vk, vn⟩, ar⟩ := o
  simp only at hk h4a htx RN
  subst hk
  have HRN := Lib.hid RN
  have H := Lib.hid (And.intro h (And.intro hA (And.intro hp ha)))
  have HH := Lib.hid (And.intro hr (And.intro hI (And.intro h4a htx)))
  clear h hI hp hp' ha hr h4a hA htx RN
  go_enter Tryd.func29, Tryd.ntmps29
  go_wp2_with (fail)
  refine HRN.out.mono ?_
  unfold RunPost
  rintro e w1 ⟨la, rfl, ht1, hg1, ⟨LA, ln, lc, rfl⟩, h41⟩
  simp only [outV, bst]
  obtain ⟨TX, hTX⟩ : ∃ TX : ByteArray, TX = ⟨tx.toArray⟩ := ⟨_, rfl⟩
  rw [← hTX]
  obtain ⟨w2, hw2⟩ : ∃ w2, w2 = w1.alloc (.cells #[.int .i64 8, .int .i64 nm, .string TX, .int .i64 vk, .int .i64 vn, .string ⟨#[]⟩, .slice none 0 0, .slice LA ln lc] 101) := ⟨_, rfl⟩
  obtain ⟨R, hR⟩ : ∃ R, R = w1.heap.size := ⟨_, rfl⟩
  have hb12 : Below w1.heap.size w1 w2 := by rw [hw2]; exact (Below.refl _ _).alloc (Nat.le_refl _) _
  have bR : Blk w2 R 101 (#[.int .i64 8, .int .i64 nm, .string TX, .int .i64 vk, .int .i64 vn, .string ⟨#[]⟩, .slice none 0 0, .slice LA ln lc]).toList := by rw [hw2, hR]; exact Blk.new w1 _ _
  simp only [] at bR
  obtain ⟨hA2, h2, st2⟩ := H.out.1.toy H.out.2.2.2 H.out.2.2.1 H.out.2.1 hg1 ht1 hb12
  have r0 := bR.cell 0
  have r1 := bR.cell 1
  have r2 := bR.cell 2
  have r3 := bR.cell 3
  have r4 := bR.cell 4
  have r5 := bR.cell 5
  have r6 := bR.cell 6
  have r7 := bR.cell 7
  simp only [List.getElem?_cons_succ, List.getElem?_cons_zero] at r0 r1 r2 r3 r4 r5 r6 r7
  have lR := bR.lt
  have HW2 := Lib.hid hw2
  have HR := Lib.hid hR
  have HT := Lib.hid hTX
  have H2 := Lib.hid (And.intro h2 (And.intro hA2 (And.intro st2 bR)))
  have H41 := Lib.hid (And.intro h41 (And.intro hg1 hb12))
  clear hw2 hR hTX ht1 hg1 h41 hb12 bR hA2 h2 st2 hM HRN c0 lS
  have b2 := H2.out.2.1.blk
  have s2 := b2.cell 2
  have g2 := b2.frozen 2
  have s3 := b2.cell 3
  have g3 := b2.frozen 3
  have s4 := b2.cell 4
  have g4 := b2.frozen 4
  have s5 := b2.cell 5
  have g5 := b2.frozen 5
  have s6 := b2.cell 6
  have g6 := b2.frozen 6
  simp only [acC, bst, List.getElem?_cons_succ, List.getElem?_cons_zero] at s2 s3 s4 s5 s6
  have lS2 := b2.lt
  have hne : R ≠ S := fun e => H2.out.2.2.2.ne_ b2 (by decide) e
  have hne2 : S ≠ R := fun e => hne e.symm
  have FIN : ∀ W, w2.grownBy W (some S) → Blk W S 80 (acC Y 166 bv { a with ty := t, ended := true, how := [101, 110, 100, 101, 100] }) → WPost w B T col (setA s i { a with ty := t, ended := true, how := [101, 110, 100, 101, 100] }) (.tuple #[]) (.returned (.tuple #[])) W := fun W hg hb => by
    have hl := (List.getElem?_eq_some_iff.1 H.out.2.2.2).1
    have e1 : (setA s i { a with ty := t }).acs[i]? = some { a with ty := t } := by simp [setA, hl]
    have := H2.out.1.cellsA e1 H.out.2.2.1 H2.out.2.1 hg hb rfl rfl
    have e2 : setA (setA s i { a with ty := t }) i { a with ty := t, ended := true, how := [101, 110, 100, 101, 100] } = setA s i { a with ty := t, ended := true, how := [101, 110, 100, 101, 100] } := by simp [setA]
    rw [e2] at this
    exact ⟨rfl, _, ⟨_, _, _, _, _, _, _, this.1⟩, H2.out.2.2.1.trans this.2⟩
  have HF := Lib.hid FIN
  clear FIN b2
  go_upto_region 14 with (fail)
  rw [← HW2.out, ← HR.out]
  go_wp2_with (fail)
  go_end0
  refine HF.out _ (grown_put (grown_put (World.grownBy.refl w2 _) 5 _) 6 _) ?_
  have := (H2.out.2.1.blk.put 5 (.bool true)).put 6 (.string ⟨#[101, 110, 100, 101, 100]⟩)
  simpa [acC, bst] using this
set_option maxRecDepth 100000 in
set_option maxHeartbeats 4000000 in
theorem wrun_say (w : World) (B T : Nat) (col : Nat → Cl) (s : Wd) {A : Option Addr} {c : Nat} {av : Value} {ps : List Value} {M : Nat} {l : List ((Nat × Nat) × Value)} {sv : Value} (h : WdW w B T col s A c av ps M l sv) {n : Nat} (hI : Inv s n) (hn : n ≤ 400000) (i : Nat) (a : Ac) (S : Nat) (hp : ps[i]? = some (.pointer (some ⟨S, 0, none⟩))) (ha : s.acs[i]? = some a) (t : Ty) (o : Ot) (hr : Go.Rp.runT a.ty = (t, o)) (hk : o.kd = 2) :
    Calls Tryd.prog 29 #[.pointer (some ⟨T, 0, none⟩), .int .i64 ((i : Int) + 1), .pointer (some ⟨S, 0, none⟩)] w (WPost w B T col ({ setA s i { a with ty := t } with said := s.said ++ [((i : Int) + 1, o.nm)] }) (.tuple #[])) := by
  have hi30 : i < 30 := by have := (List.getElem?_eq_some_iff.1 ha).1; have := hI.acs; omega
  obtain ⟨S', hp', Y, bv, hA⟩ := h.acts.2 i a ha
  obtain rfl : S = S' := by
    rw [hp] at hp'
    injection hp' with hp'
    injection hp' with hp'
    injection hp' with hp'
    injection hp' with hp'
  have htx := (runT_tx (hI.tx i a ha)).2
  have h4a : o.kd = 4 → ∃ (q : UInt8) (v : Vl), o.tx = [q] ∧ 97 ≤ q.toNat ∧ o.ar = [v] := fun e => by
    obtain ⟨_, _, _, _, _, _, _, h4⟩ := hA.toy
    have := runT_four h4 (by rw [hr]; exact e)
    rw [hr] at this
    exact this
  rw [hr] at htx
  have RN := run_any w B Y a.ty hA.toy (h.own (k := .act i) (by simp) Y hA.oT)
  rw [hr] at RN
  have c0 := hA.blk.cell 0
  simp only [acC, List.getElem?_cons_zero] at c0
  have lS := hA.blk.lt
  have hM := fun f W => meth_run f Y W
  obtain ⟨kd, nm, tx, ⟨vk, vn⟩, ar⟩ := o
  simp only at hk h4a htx RN
  subst hk
  have HRN := Lib.hid RN
  have H := Lib.hid (And.intro h (And.intro hA (And.intro hp ha)))
  have HH := Lib.hid (And.intro hr (And.intro hI (And.intro h4a htx)))
  clear h hI hp hp' ha hr h4a hA htx RN
  go_enter Tryd.func29, Tryd.ntmps29
  go_wp2_with (fail)
  refine HRN.out.mono ?_
  unfold RunPost
  rintro e w1 ⟨la, rfl, ht1, hg1, ⟨LA, ln, lc, rfl⟩, h41⟩
  simp only [outV, bst]
  obtain ⟨TX, hTX⟩ : ∃ TX : ByteArray, TX = ⟨tx.toArray⟩ := ⟨_, rfl⟩
  rw [← hTX]
  obtain ⟨w2, hw2⟩ : ∃ w2, w2 = w1.alloc (.cells #[.int .i64 2, .int .i64 nm, .string TX, .int .i64 vk, .int .i64 vn, .string ⟨#[]⟩, .slice none 0 0, .slice LA ln lc] 101) := ⟨_, rfl⟩
  obtain ⟨R, hR⟩ : ∃ R, R = w1.heap.size := ⟨_, rfl⟩
  have hb12 : Below w1.heap.size w1 w2 := by rw [hw2]; exact (Below.refl _ _).alloc (Nat.le_refl _) _
  have bR : Blk w2 R 101 (#[.int .i64 2, .int .i64 nm, .string TX, .int .i64 vk, .int .i64 vn, .string ⟨#[]⟩, .slice none 0 0, .slice LA ln lc]).toList := by rw [hw2, hR]; exact Blk.new w1 _ _
  simp only [] at bR
  obtain ⟨hA2, h2, st2⟩ := H.out.1.toy H.out.2.2.2 H.out.2.2.1 H.out.2.1 hg1 ht1 hb12
  have r0 := bR.cell 0
  have r1 := bR.cell 1
  have r2 := bR.cell 2
  have r3 := bR.cell 3
  have r4 := bR.cell 4
  have r5 := bR.cell 5
  have r6 := bR.cell 6
  have r7 := bR.cell 7
  simp only [List.getElem?_cons_succ, List.getElem?_cons_zero] at r0 r1 r2 r3 r4 r5 r6 r7
  have lR := bR.lt
  have HW2 := Lib.hid hw2
  have HR := Lib.hid hR
  have HT := Lib.hid hTX
  have H2 := Lib.hid (And.intro h2 (And.intro hA2 (And.intro st2 bR)))
  have H41 := Lib.hid (And.intro h41 (And.intro hg1 hb12))
  clear hw2 hR hTX ht1 hg1 h41 hb12 bR hA2 h2 st2 hM HRN c0 lS
  have h2 := H2.out.1
  obtain ⟨SA, sc, rfl, hsc, hscm⟩ := h2.sd.form
  obtain ⟨K, hK2⟩ : ∃ K, K = s.said.length := ⟨_, rfl⟩
  obtain ⟨wd, hwd⟩ : ∃ wd, wd = w2.drew := ⟨_, rfl⟩
  obtain ⟨w3, hw3⟩ : ∃ w3, w3 = wd.alloc (.cells #[.int .i64 ((i : Int) + 1), .int .i64 nm] 45) := ⟨_, rfl⟩
  have hbd : Below w2.heap.size w2 wd := by rw [hwd]; exact (Below.refl _ _).drew
  have hb3 : Below wd.heap.size wd w3 := by rw [hw3]; exact (Below.refl _ _).alloc (Nat.le_refl _) _
  have hb23 : Below w2.heap.size w2 w3 := hbd.trans (hb3.mono hbd.size)
  have bT2 := h2.blk
  have bT3 := bT2.below hb23 bT2.lt
  have sg3 := h2.sd.keep (w' := w3) fun b hb => hb23.block b (h2.sd.lt b hb)
  have rd3 : Reads w3 Any 2 (some ⟨wd.heap.size, 0, none⟩) 1 (sdC ((i : Int) + 1, nm)) := by rw [hw3]; exact Reads.new wd (sdC ((i : Int) + 1, nm)) 2 1 _ Any trivial rfl
  obtain ⟨v4, w4, hap, sg4, hg4, hat4⟩ := sg3.app el_sd rd3 (by omega) (sdC_one _) (by have := HH.out.2.1.said; have e : (setA s i { a with ty := t }).said.length = s.said.length := rfl; omega) (c := 1) 39
  obtain ⟨A4, c4, rfl, _, _⟩ := sg4.form
  have nT : (Value.slice SA (setA s i { a with ty := t }).said.length sc).ownBlock ≠ some T := seg_own h2.sd h2.blk (by decide)
  have nR : (Value.slice SA (setA s i { a with ty := t }).said.length sc).ownBlock ≠ some R := seg_own h2.sd H2.out.2.2.2 (by decide)
  have bT4 := bT3.grown hg4 (fun e => nT e.symm)
  have n4T : ∀ b, (Value.slice A4 ((setA s i { a with ty := t }).said.length + 1) c4).ownBlock = some b → b ≠ T := fun b hb e => by
    rcases hat4 b hb with h1 | h1
    · exact nT (e ▸ h1)
    · have := bT3.lt
      omega
  obtain ⟨w5, hw5⟩ : ∃ w5, w5 = w4.setCell ⟨T, 3, none⟩ (.slice A4 ((setA s i { a with ty := t }).said.length + 1) c4) := ⟨_, rfl⟩
  have hin : GrownIn (fun b => b = T ∨ recol col w.heap.size (.act i) b = .said) w2 w5 := by
    rw [hw5]
    refine GrownIn.set ?_ (.inl rfl) _
    exact (GrownIn.of_below hb23).trans (GrownIn.of_grown (own := fun b => b = T ∨ recol col w.heap.size (.act i) b = .said) hg4 fun k hk => .inr (h2.cs k hk)) fun b hb => .inl hb
  have bT5 := bT4.put 3 (.slice A4 ((setA s i { a with ty := t }).said.length + 1) c4)
  rw [← hw5] at bT5
  have FIN := h2.say (sv' := .slice A4 ((setA s i { a with ty := t }).said.length + 1) c4) (xs := s.said ++ [((i : Int) + 1, nm)]) hin bT5 (by
    rw [cat_app, cat_one, List.length_append, List.length_singleton, hw5]
    exact sg4.keep fun b hb => Below.heap_setCell w4 _ _ b (fun e => n4T b hb e)) (fun b hb => by
    rcases hat4 b hb with h1 | h1
    · rw [recol_old (h2.sd.lt b h1)]
      exact h2.cs b h1
    · exact recol_new (Nat.le_trans hb23.size h1))
  have HF := Lib.hid (And.intro FIN.1 (H2.out.2.2.1.trans FIN.2))
  have kS : (setA s i { a with ty := t }).said.length = K := hK2.symm
  rw [kS] at hap HF bT3 bT4 sg3 hw5
  have t3 := bT3.cell 3
  have d3 := bT4.cell 3
  have f3 := bT4.frozen 3
  have t0 := (bT2.below hbd bT2.lt).cell 3
  simp only [List.getElem?_cons_succ, List.getElem?_cons_zero] at t3 d3 t0
  rw [kS] at t0
  have lT4 := bT4.lt
  have lT := bT2.lt
  have hS0 : wd.cell? ⟨T, 3, none⟩ = some (.slice SA K sc) ∧ wd.cell? ⟨R, 1, none⟩ = some (.int .i64 nm) := ⟨t0, (hbd.cell (p := ⟨R, 1, none⟩) lR).trans r1⟩
  have hS3 : w3.cell? ⟨T, 3, none⟩ = some (.slice SA K sc) ∧ w3.cell? ⟨R, 1, none⟩ = some (.int .i64 nm) := ⟨t3, (hb23.cell (p := ⟨R, 1, none⟩) lR).trans r1⟩
  have hS4 : w4.cell? ⟨T, 3, none⟩ = some (.slice SA K sc) ∧ w4.cell? ⟨R, 1, none⟩ = some (.int .i64 nm) := ⟨d3, (World.cell?_of_block (w := w3) (hg4.block R (Nat.lt_of_lt_of_le lR hb23.size) (fun e => nR e.symm))).trans hS3.2⟩
  have HW3 := Lib.hid hw3
  have HW5 := Lib.hid hw5
  have HWD := Lib.hid hwd
  have ec : recol (recol col w.heap.size (.act i)) w2.heap.size .said = recol (recol col w.heap.size (.act i)) w2.heap.size .said := rfl
  clear h2 hsc hscm hwd hw3 hbd hb3 hb23 bT2 bT3 sg3 rd3 sg4 hg4 hat4 nT nR bT4 n4T hw5 hin bT5 FIN kS hK2 t3 t0 ec H HH
  go_wp2_with (fail)
  rw [← HW2.out, ← HR.out]
  refine wp_region_g (S := fun W => W.cell? ⟨T, 3, none⟩ = some (.slice SA K sc) ∧ W.cell? ⟨R, 1, none⟩ = some (.int .i64 nm)) (m := 11) (by kernel_rfl) ?_
  rw [← HWD.out]
  have hS := hS0
  repeat (first | (refine wpAnyG_take (i := 0) (v := .pointer (some ⟨T, 0, none⟩)) rfl ?_ ?_ ?_ (fun _ _ _ h => h) (Or.inl ⟨by rfl, ?_⟩) hS ?_; (· decide +kernel); (· decide +kernel); (· decide +kernel); (· (intro w' hS'; obtain ⟨hS0, hS1⟩ := hS'; go_simp))) | (refine wpAnyG_take (i := 1) (v := .pointer (some ⟨T, 0, none⟩)) rfl ?_ ?_ ?_ (fun _ _ _ h => h) (Or.inl ⟨by rfl, ?_⟩) hS ?_; (· decide +kernel); (· decide +kernel); (· decide +kernel); (· (intro w' hS'; obtain ⟨hS0, hS1⟩ := hS'; go_simp))) | (refine wpAnyG_take (i := 2) (v := .pointer (some ⟨T, 0, none⟩)) rfl ?_ ?_ ?_ (fun _ _ _ h => h) (Or.inl ⟨by rfl, ?_⟩) hS ?_; (· decide +kernel); (· decide +kernel); (· decide +kernel); (· (intro w' hS'; obtain ⟨hS0, hS1⟩ := hS'; go_simp))) | (refine wpAnyG_take (i := 3) (v := .pointer (some ⟨T, 3, none⟩)) rfl ?_ ?_ ?_ (fun _ _ _ h => h) (Or.inl ⟨by rfl, ?_⟩) hS ?_; (· decide +kernel); (· decide +kernel); (· decide +kernel); (· (intro w' hS'; obtain ⟨hS0, hS1⟩ := hS'; go_simp))) | (refine wpAnyG_take (i := 4) (v := .slice SA K sc) rfl ?_ ?_ ?_ (fun _ _ _ h => h) (Or.inl ⟨by rfl, ?_⟩) hS ?_; (· decide +kernel); (· decide +kernel); (· decide +kernel); (· (intro w' hS'; obtain ⟨hS0, hS1⟩ := hS'; go_simp))) | (refine wpAnyG_take (i := 5) (v := .int .i64 ((i : Int) + 1)) rfl ?_ ?_ ?_ (fun _ _ _ h => h) (Or.inl ⟨by rfl, ?_⟩) hS ?_; (· decide +kernel); (· decide +kernel); (· decide +kernel); (· (intro w' hS'; obtain ⟨hS0, hS1⟩ := hS'; go_simp))) | (refine wpAnyG_take (i := 6) (v := .pointer (some ⟨R, 1, none⟩)) rfl ?_ ?_ ?_ (fun _ _ _ h => h) (Or.inl ⟨by rfl, ?_⟩) hS ?_; (· decide +kernel); (· decide +kernel); (· decide +kernel); (· (intro w' hS'; obtain ⟨hS0, hS1⟩ := hS'; go_simp))) | (refine wpAnyG_take (i := 7) (v := .int .i64 nm) rfl ?_ ?_ ?_ (fun _ _ _ h => h) (Or.inl ⟨by rfl, ?_⟩) hS ?_; (· decide +kernel); (· decide +kernel); (· decide +kernel); (· (intro w' hS'; obtain ⟨hS0, hS1⟩ := hS'; go_simp))) | (refine wpAnyG_take (i := 8) (v := .agg #[.int .i64 ((i : Int) + 1), .int .i64 nm]) rfl ?_ ?_ ?_ (fun _ _ _ h => h) (Or.inl ⟨by rfl, ?_⟩) hS ?_; (· decide +kernel); (· decide +kernel); (· decide +kernel); (· (intro w' hS'; obtain ⟨hS0, hS1⟩ := hS'; go_simp))))
  refine wpAnyG_ready (rs := [9]) (by decide +kernel) (by simp) ?_
  refine AllReadyG.cons rfl (fun K hK => ?_) AllReadyG.nil
  go_simp
  rw [← HW3.out]
  refine hK _ _ (fun _ => hS3) ?_
  clear hK K hS hS0
  refine wpAnyG_ready (rs := [10]) (by decide +kernel) (by simp) ?_
  refine AllReadyG.cons rfl (fun K hK => ?_) AllReadyG.nil
  refine step_app_run rfl (.tmp 22) (.tmp 27) rfl rfl rfl hap ?_
  refine hK _ _ (fun _ => hS4) ?_
  clear hK K hap hS3 hS4
  refine wpAnyG_ready (rs := [11]) (by decide +kernel) (by simp) ?_
  refine AllReadyG.cons rfl (fun K hK => ?_) AllReadyG.nil
  go_simp
  refine hK _ _ (fun h => absurd h (by decide)) ?_
  clear hK K
  refine wpAnyG_ready (rs := [12]) (by decide +kernel) (by simp) ?_
  refine AllReadyG.cons rfl (fun K hK => ?_) AllReadyG.nil
  go_simp
  refine hK _ _ (fun h => absurd h (by decide)) ?_
  clear hK K
  refine wpAnyG_ready (rs := [13]) (by decide +kernel) (by simp) ?_
  refine AllReadyG.cons rfl (fun K hK => ?_) AllReadyG.nil
  go_simp
  refine hK _ _ (fun h => absurd h (by decide)) ?_
  clear hK K
  refine wpAnyG_done (by decide +kernel) ?_ _
  rw [← HW5.out]
  go_wp2_with (fail)
  go_end0
  exact ⟨rfl, _, ⟨_, _, _, _, _, _, _, HF.out.1⟩, HF.out.2⟩
set_option maxRecDepth 100000 in
set_option maxHeartbeats 4000000 in
theorem wrun_other (w : World) (B T : Nat) (col : Nat → Cl) (s : Wd) {A : Option Addr} {c : Nat} {av : Value} {ps : List Value} {M : Nat} {l : List ((Nat × Nat) × Value)} {sv : Value} (h : WdW w B T col s A c av ps M l sv) {n : Nat} (hI : Inv s n) (hn : n ≤ 400000) (i : Nat) (a : Ac) (S : Nat) (hp : ps[i]? = some (.pointer (some ⟨S, 0, none⟩))) (ha : s.acs[i]? = some a) (t : Ty) (o : Ot) (hr : Go.Rp.runT a.ty = (t, o)) (hk : o.kd ≠ 2 ∧ o.kd ≠ 3 ∧ o.kd ≠ 4 ∧ o.kd ≠ 7 ∧ o.kd ≠ 8 ∧ o.kd ≠ 9) :
    Calls Tryd.prog 29 #[.pointer (some ⟨T, 0, none⟩), .int .i64 ((i : Int) + 1), .pointer (some ⟨S, 0, none⟩)] w (WPost w B T col (setA s i { a with ty := t }) (.tuple #[])) := by
  have hi30 : i < 30 := by have := (List.getElem?_eq_some_iff.1 ha).1; have := hI.acs; omega
  obtain ⟨S', hp', Y, bv, hA⟩ := h.acts.2 i a ha
  obtain rfl : S = S' := by
    rw [hp] at hp'
    injection hp' with hp'
    injection hp' with hp'
    injection hp' with hp'
    injection hp' with hp'
  have htx := (runT_tx (hI.tx i a ha)).2
  have h4a : o.kd = 4 → ∃ (q : UInt8) (v : Vl), o.tx = [q] ∧ 97 ≤ q.toNat ∧ o.ar = [v] := fun e => by
    obtain ⟨_, _, _, _, _, _, _, h4⟩ := hA.toy
    have := runT_four h4 (by rw [hr]; exact e)
    rw [hr] at this
    exact this
  rw [hr] at htx
  have RN := run_any w B Y a.ty hA.toy (h.own (k := .act i) (by simp) Y hA.oT)
  rw [hr] at RN
  have c0 := hA.blk.cell 0
  simp only [acC, List.getElem?_cons_zero] at c0
  have lS := hA.blk.lt
  have hM := fun f W => meth_run f Y W
  obtain ⟨kd, nm, tx, ⟨vk, vn⟩, ar⟩ := o
  simp only at hk h4a htx RN
  have HRN := Lib.hid RN
  have H := Lib.hid (And.intro h (And.intro hA (And.intro hp ha)))
  have HH := Lib.hid (And.intro hr (And.intro hI (And.intro h4a htx)))
  clear h hI hp hp' ha hr h4a hA htx RN
  go_enter Tryd.func29, Tryd.ntmps29
  go_wp2_with (fail)
  refine HRN.out.mono ?_
  unfold RunPost
  rintro e w1 ⟨la, rfl, ht1, hg1, ⟨LA, ln, lc, rfl⟩, h41⟩
  simp only [outV, bst]
  obtain ⟨TX, hTX⟩ : ∃ TX : ByteArray, TX = ⟨tx.toArray⟩ := ⟨_, rfl⟩
  rw [← hTX]
  obtain ⟨w2, hw2⟩ : ∃ w2, w2 = w1.alloc (.cells #[.int .i64 kd, .int .i64 nm, .string TX, .int .i64 vk, .int .i64 vn, .string ⟨#[]⟩, .slice none 0 0, .slice LA ln lc] 101) := ⟨_, rfl⟩
  obtain ⟨R, hR⟩ : ∃ R, R = w1.heap.size := ⟨_, rfl⟩
  have hb12 : Below w1.heap.size w1 w2 := by rw [hw2]; exact (Below.refl _ _).alloc (Nat.le_refl _) _
  have bR : Blk w2 R 101 (#[.int .i64 kd, .int .i64 nm, .string TX, .int .i64 vk, .int .i64 vn, .string ⟨#[]⟩, .slice none 0 0, .slice LA ln lc]).toList := by rw [hw2, hR]; exact Blk.new w1 _ _
  simp only [] at bR
  obtain ⟨hA2, h2, st2⟩ := H.out.1.toy H.out.2.2.2 H.out.2.2.1 H.out.2.1 hg1 ht1 hb12
  have r0 := bR.cell 0
  have r1 := bR.cell 1
  have r2 := bR.cell 2
  have r3 := bR.cell 3
  have r4 := bR.cell 4
  have r5 := bR.cell 5
  have r6 := bR.cell 6
  have r7 := bR.cell 7
  simp only [List.getElem?_cons_succ, List.getElem?_cons_zero] at r0 r1 r2 r3 r4 r5 r6 r7
  have lR := bR.lt
  have HW2 := Lib.hid hw2
  have HR := Lib.hid hR
  have HT := Lib.hid hTX
  have H2 := Lib.hid (And.intro h2 (And.intro hA2 (And.intro st2 bR)))
  have H41 := Lib.hid (And.intro h41 (And.intro hg1 hb12))
  have n2 : ((kd : Int) == 2) = false := by simpa using hk.1
  have n3 : ((kd : Int) == 3) = false := by simpa using hk.2.1
  have n4 : ((kd : Int) == 4) = false := by simpa using hk.2.2.1
  have n7 : ((kd : Int) == 7) = false := by simpa using hk.2.2.2.1
  have n8 : ((kd : Int) == 8) = false := by simpa using hk.2.2.2.2.1
  have n9 : ((kd : Int) == 9) = false := by simpa using hk.2.2.2.2.2
  clear hw2 hR hTX ht1 hg1 h41 hb12 bR hA2 h2 st2 hM HRN c0 lS
  go_wp2_with (fail)
  go_end0
  exact ⟨rfl, _, ⟨_, _, _, _, _, _, _, by rw [← HW2.out]; exact H2.out.1⟩, by rw [← HW2.out]; exact H2.out.2.2.1⟩
theorem wrun_any (w : World) (B T : Nat) (col : Nat → Cl) (s : Wd) {A : Option Addr} {c : Nat} {av : Value} {ps : List Value} {M : Nat} {l : List ((Nat × Nat) × Value)} {sv : Value} (h : WdW w B T col s A c av ps M l sv) {n : Nat} (hI : Inv s n) (hn : n ≤ 400000) (i : Nat) (a : Ac) (S : Nat) (hp : ps[i]? = some (.pointer (some ⟨S, 0, none⟩))) (ha : s.acs[i]? = some a) :
    Calls Tryd.prog 29 #[.pointer (some ⟨T, 0, none⟩), .int .i64 ((i : Int) + 1), .pointer (some ⟨S, 0, none⟩)] w (WPost w B T col (runF s i a) (.tuple #[])) := by
  unfold runF
  rcases hr : Go.Rp.runT a.ty with ⟨t, o⟩
  simp only
  by_cases h2 : o.kd = 2
  · rw [if_pos h2]
    exact wrun_say w B T col s h hI hn i a S hp ha t o hr h2
  rw [if_neg h2]
  by_cases h3 : o.kd = 3
  · rw [if_pos h3]
    exact wrun_put w B T col s h hI hn i a S hp ha t o hr h3
  rw [if_neg h3]
  by_cases h4 : o.kd = 4
  · rw [if_pos h4]
    exact wrun_spawn w B T col s h hI hn i a S hp ha t o hr h4
  rw [if_neg h4]
  by_cases h7 : o.kd = 7
  · rw [if_pos h7]
    exact wrun_wait w B T col s h hI hn i a S hp ha t o hr h7
  rw [if_neg h7]
  by_cases h8 : o.kd = 8
  · rw [if_pos h8]
    exact wrun_end w B T col s h hI hn i a S hp ha t o hr h8
  rw [if_neg h8]
  by_cases h9 : o.kd = 9
  · rw [if_pos h9]
    exact wrun_fail w B T col s h hI hn i a S hp ha t o hr h9
  rw [if_neg h9]
  exact wrun_other w B T col s h hI hn i a S hp ha t o hr ⟨h2, h3, h4, h7, h8, h9⟩
end Go.Proofs.YtlpkgheggbcidaaDoor
