/- Contract of (*Shelf).Drop. -/
import Derived.Test.YtgcpclbkjplipaaShelfPut
import Derived.Deep.CutBlock
set_option linter.unusedVariables false
namespace Go.Proofs.Ytgcpclbkjplipaa
open Go.RowKit Go.Mem Go.Chunk Go.Maps
def DropPost (w : World) (S P N : Nat) (s : Shf) (n : Nat) (e : Ending) (w' : World) : Prop :=
  e = .returned (.int .i64 0) ∧ ShelfAt w' S P N (dropF s n) ∧ GrownIn (OwnPN P N) w w'
theorem ShelfAt.grown_in {w w' : World} {S P N : Nat} {s : Shf} (h : ShelfAt w S P N s) {own : Nat → Prop} (k : GrownIn own w w') (ho : ∀ b, b = S ∨ b = P ∨ b = N → ¬ own b) : ShelfAt w' S P N s := by
  obtain ⟨h1, h2, h3⟩ := h.lt
  exact h.same fun b hb => k.block b (by rcases hb with rfl | rfl | rfl <;> assumption) (ho b hb)
set_option maxRecDepth 100000 in
set_option maxHeartbeats 2000000 in
theorem drop_any (w : World) (S P N : Nat) (s : Shf) (n : Nat) (b : Bs) (x : Nat) (hs : ShelfAt w S P N s) (hx : mget s.ps n = some (b, x)) (hx6 : x ≤ 1000000) (hb : b.length ≤ 65536) :
    Calls Try.prog 59 #[.pointer (some ⟨S, 0, none⟩), .int .i64 (n : Nat)] w (DropPost w S P N s n) := by
  have hn9 := hs.some_ hx
  have hgx : (mget s.ps n).getD ([], 0) = (b, x) := by rw [hx]; rfl
  have lk := hs.look_ok n hn9 hgx (c := true) (by rw [hx]; rfl) w rfl
  have c0 := hs.blk.cell 0
  simp only [List.getElem?_cons_zero] at c0
  have lS := hs.blk.lt
  have ha : GrownIn (OwnPN P N) w (w.alloc (.cells #[.string ⟨b.toArray⟩, .int .i64 (x : Nat)] 121)) := (GrownIn.refl _ _).alloc _
  have hs0 : ShelfAt (w.alloc (.cells #[.string ⟨b.toArray⟩, .int .i64 (x : Nat)] 121)) S P N s := hs.below ((Below.refl _ _).alloc (Nat.le_refl _) _)
  have xw : IntKind.i64.wrap ((x : Int) - 1) = (x : Int) - 1 := IntWalk.i64_in _ (by omega)
  obtain ⟨hlS, hlP, hlN⟩ := hs.lt
  have HS := Lib.hid hs
  have HX := Lib.hid hx
  have HG := Lib.hid ha
  have HS0 := Lib.hid hs0
  have Hb := Lib.hid hb
  clear hs hx ha hs0 hb
  by_cases h1 : 1 < x
  · have g1 : decide ((x : Int) - 1 > 0) = true := decide_eq_true (by omega)
    go_enter Try.func59, Try.ntmps59
    go_wp2_with (fail)
    obtain ⟨W1, hW1⟩ : ∃ W1, W1 = w.alloc (.cells #[.string ⟨b.toArray⟩, .int .i64 ((x : Int) - 1)] 121) := ⟨_, rfl⟩
    have hs1 : ShelfAt W1 S P N s := by rw [hW1]; exact HS.out.below ((Below.refl _ _).alloc (Nat.le_refl _) _)
    have hg1 : GrownIn (OwnPN P N) w W1 := by rw [hW1]; exact (GrownIn.refl _ _).alloc _
    have hb1 : Blk W1 w.heap.size 121 [.string ⟨b.toArray⟩, .int .i64 ((x : Int) - 1)] := by rw [hW1]; exact Blk.new w _ _
    rw [← hW1]
    have hRP : w.heap.size ≠ P := by omega
    have hRN : w.heap.size ≠ N := by omega
    generalize w.heap.size = R at hb1 hRP hRN ⊢
    have c0 := hs1.blk.cell 0
    simp only [List.getElem?_cons_zero] at c0
    have lS := hs1.blk.lt
    have e0 := hb1.cell 0
    have e1 := hb1.cell 1
    simp only [List.getElem?_cons_zero, List.getElem?_cons_succ] at e0 e1
    have lR := hb1.lt
    have HS1 := Lib.hid hs1
    have HG1 := Lib.hid hg1
    have HB1 := Lib.hid hb1
    clear hW1 hs1 hg1 hb1
    go_still_tail 6, (by kernel_rfl)
    change wpList _ _ _ _ _ (World.drew W1)
    go_wp2_with (refine wpList_mupdate _ rfl (.tmp 28) (.tmp 29) (.tmp 30) _ rfl enc_N Try.underlying115 (b := P) (key := n) rfl (by exact HS1.out.ps.same rfl) rfl hn9 ?_; intro w2 hm2 hg2)
    go_ret
    have hm3 : MapOf encN okN w2 P ((mput s.ps n (b, x - 1)).map fun p => (p.1, pv p.2)) := by
      rw [put_map (f := pv)]
      have e : pv (b, x - 1) = .agg #[.string ⟨b.toArray⟩, .int .i64 ((x : Int) - 1)] := by unfold pv; rw [show (((b, x - 1) : Bs × Nat).2 : Int) = (x : Int) - 1 by simp only; omega]
      rw [e]
      exact hm2
    have hg3 : W1.grownBy w2 (some P) := ⟨hg2.os, hg2.tape, hg2.output, hg2.size, hg2.block⟩
    have hs2 := ShelfAt.putP (w := W1) (w' := w2) HS1.out hm3 hg3
    have hd : dropF s n = ⟨mput s.ps n (b, x - 1), s.ns⟩ := by unfold dropF; rw [HX.out]; simp only; rw [if_pos h1]
    refine ⟨rfl, by rw [hd]; exact hs2, HG1.out.trans (GrownIn.of_grown (own := OwnPN P N) hg3 (by intro k hk; injection hk with hk; exact .inl hk.symm)) (fun _ h => .inl h)⟩
  · have g1 : decide ((x : Int) - 1 > 0) = false := decide_eq_false (by omega)
    go_enter Try.func59, Try.ntmps59
    go_upto_region 8 with (fail)
    obtain ⟨W1, hW1⟩ : ∃ W1, W1 = w.alloc (.cells #[.string ⟨b.toArray⟩, .int .i64 ((x : Int) - 1)] 121) := ⟨_, rfl⟩
    have hs1 : ShelfAt W1 S P N s := by rw [hW1]; exact HS.out.below ((Below.refl _ _).alloc (Nat.le_refl _) _)
    have hg1 : GrownIn (OwnPN P N) w W1 := by rw [hW1]; exact (GrownIn.refl _ _).alloc _
    have hb1 : Blk W1 w.heap.size 121 [.string ⟨b.toArray⟩, .int .i64 ((x : Int) - 1)] := by rw [hW1]; exact Blk.new w _ _
    rw [← hW1]
    have hRP : w.heap.size ≠ P := by omega
    have hRN : w.heap.size ≠ N := by omega
    generalize w.heap.size = R at hb1 hRP hRN ⊢
    have c0 := hs1.blk.cell 0
    simp only [List.getElem?_cons_zero] at c0
    have lS := hs1.blk.lt
    have e0 := hb1.cell 0
    have e1 := hb1.cell 1
    simp only [List.getElem?_cons_zero, List.getElem?_cons_succ] at e0 e1
    have lR := hb1.lt
    have HS1 := Lib.hid hs1
    have HG1 := Lib.hid hg1
    have HB1 := Lib.hid hb1
    clear hW1 hs1 hg1 hb1
    go_wp2_with (refine wpList_mdelete _ rfl (.tmp 34) (.tmp 35) _ rfl enc_N Try.underlying115 (b := P) (key := n) rfl (by exact HS1.out.ps) rfl hn9 ?_; intro w2 hm2 hg2; have hm3 : MapOf encN okN w2 P ((mdel s.ps n).map fun p => (p.1, pv p.2)) := (by rw [del_map (f := pv)]; exact hm2); have hs2 := ShelfAt.putP (w := W1) (w' := w2) HS1.out hm3 hg2; have hgg2 := HG1.out.trans (GrownIn.of_grown (own := OwnPN P N) hg2 (by intro k hk; injection hk with hk; exact .inl hk.symm)) (fun _ h => .inl h); have hb2 := HB1.out.grown hg2 (by simp [hRP]); clear hm2 hg2 hm3)
    have c1 := hs2.blk.cell 1
    simp only [List.getElem?_cons_zero, List.getElem?_cons_succ] at c1
    have lS2 := hs2.blk.lt
    have e2 := hb2.cell 0
    simp only [List.getElem?_cons_zero] at e2
    have lR2 := hb2.lt
    have HS2 := Lib.hid hs2
    have HG2 := Lib.hid hgg2
    clear hs2 hgg2 hb2 HS1 HG1 HB1 c0 lS e0 e1 lR
    go_wp2_with (fail)
    go_still_tail 6, (by kernel_rfl)
    change wpList _ _ _ _ _ (World.drew w2)
    go_wp2_with (refine wpList_mdelete _ rfl (.tmp 39) (.tmp 41) _ rfl enc_B Try.underlying116 (b := N) (key := b) rfl (by exact HS2.out.ns.same rfl) rfl Hb.out ?_; intro w3 hm3 hg3)
    go_ret
    have hm4 : MapOf encB okB w3 N ((mdel s.ns b).map fun p => (p.1, encN p.2)) := by rw [del_map (f := encN)]; exact hm3
    have hg4 : w2.grownBy w3 (some N) := ⟨hg3.os, hg3.tape, hg3.output, hg3.size, hg3.block⟩
    have hs3 := ShelfAt.putN (w := w2) (w' := w3) HS2.out hm4 hg4
    have hd : dropF s n = ⟨mdel s.ps n, mdel s.ns b⟩ := by unfold dropF; rw [HX.out]; simp only; rw [if_neg h1]
    exact ⟨rfl, by rw [hd]; exact hs3, HG2.out.trans (GrownIn.of_grown (own := OwnPN P N) hg4 (by intro k hk; injection hk with hk; exact .inr hk.symm)) (fun _ h => .inl h)⟩
end Go.Proofs.Ytgcpclbkjplipaa
