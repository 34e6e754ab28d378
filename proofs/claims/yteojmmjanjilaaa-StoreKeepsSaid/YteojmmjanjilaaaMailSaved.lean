/- Contract of (*reader).saved: it follows decS where that succeeds. (Printed by mailsv.py.) -/
import Derived.Test.YteojmmjanjilaaaMailLetter
set_option linter.unusedVariables false
namespace Go.Val
open Go.RowKit Go.Mem
/-- what was read: it lies in new memory; the reader's flag is as it was -/
def RyPost {α : Type} (cells : World → (Nat → Prop) → List Value → α → Prop) (dec : List UInt8 → Option (α × List UInt8)) (w : World) (R : Nat) (T : TypeId) (bs : List UInt8) (bad : Bool) (e : Ending) (w' : World) : Prop :=
  ∃ (x : α) (cs : List Value) (bs' : List UInt8), e = .returned (.agg cs.toArray) ∧ cells w' (fun b => w.heap.size ≤ b) cs x ∧ Rd w' R T [.int .i64 0] bs' bad ∧ w.grownBy w' (some R) ∧ bs'.length ≤ bs.length ∧ Hid ((okS bad bs).bind dec = okS bad (x, bs'))
theorem Cur.head {α β : Type} {D : List UInt8 → Option (β × List UInt8)} {bad : Bool} {bs bs1 : List UInt8} {dec : List UInt8 → Option (α × List UInt8)} {k : α → List UInt8 → Option (β × List UInt8)} (h : Cur D bad bs (seqD dec k) bs1) : bad = false → (dec bs1).isSome = true := by
  intro hb
  have := h.2 hb
  unfold seqD at this
  cases hd : dec bs1 with
  | none => rw [hd] at this; simp at this
  | some p => rfl
theorem fine_one {α : Type} {dec : List UInt8 → Option (α × List UInt8)} {bad1 : Bool} {bs bs1 : List UInt8} {x : α} (h : (okS false bs).bind dec = okS bad1 (x, bs1)) (hf : (dec bs).isSome = true) : bad1 = false := by
  simp only [okS, Bool.false_eq_true, if_false, Option.bind_some] at h
  rw [h] at hf
  cases bad1 with
  | true => simp at hf
  | false => rfl
end Go.Val
namespace Go.Proofs.Yteojmmjanjilaaa
open Go.RowKit Go.Mem Go.Val
set_option maxRecDepth 100000 in
theorem someVa_bad (w : World) (R : Nat) (T : TypeId) (bs : List UInt8) (h : Rd w R T [.int .i64 0] bs true) :
    Calls Try.prog 91 #[.pointer (some ⟨R, 0, none⟩), .func (.func 92) #[.pointer (some ⟨R, 0, none⟩)] #[]] w (SmPost 53 4 (VCells 41) (decV 40) w R T bs true) := by
  go_enter Try.func91, Try.ntmps91
  go_wp2_with (fail)
  refine (rcount_any w R T [.int .i64 0] bs true h).mono ?_
  rintro e w1 ⟨x, bs1, bad1, rfl, hx, hrd, hg, hl, hh⟩
  have hb1 : bad1 = true := bad_on (β := Nat) hh.out rfl
  subst hb1
  have hfin : SmPost 53 4 (VCells 41) (decV 40) w R T bs true (.returned (.slice none 0 0)) w1 := ⟨[], none, 0, bs1, rfl, OwnList.nil _ _ _ _, by simp, hrd, hg, hl, by unfold Hid; rfl⟩
  have Hfin := Lib.hid hfin
  obtain ⟨A3, c3, hb3, _, _, hr3⟩ := id hrd
  have k1 : w1.cell? ⟨R, 1, none⟩ = some (.bool true) := hb3.cell 1
  have l1 := hb3.lt
  clear hb3 hr3 hrd hg hh hfin h
  go_wp2_with (fail)
  refine wp_loop_rounds 1 ?_
  rw [rounds_succ]
  by_cases hm0 : 0 < x
  · go_wp2_with (fail)
    go_ret
    exact Hfin.out
  · obtain rfl : x = 0 := by omega
    go_wp2_with (fail)
    go_ret
    exact Hfin.out


theorem someVa_any (w : World) (R : Nat) (T : TypeId) (bs : List UInt8) (bad : Bool) (hlen : bs.length ≤ 4194304) (h : Rd w R T [.int .i64 0] bs bad) (hf : bad = false → (listD (decV 40) bs).isSome = true) :
    Calls Try.prog 91 #[.pointer (some ⟨R, 0, none⟩), .func (.func 92) #[.pointer (some ⟨R, 0, none⟩)] #[]] w (SmPost 53 4 (VCells 41) (decV 40) w R T bs bad) := by
  cases bad with
  | true => exact someVa_bad w R T bs h
  | false =>
    refine (some_any 40 (rvalue 40) w R T 0 bs false (by omega) (by omega) hlen h).mono ?_
    rintro e w' ⟨l, A, c, bs', bad', dep', rfl, ho, hll, hrd, hg, hl, hh, h1, h2, h3⟩
    have hb := fine_one hh.out (hf rfl)
    subst hb
    have hd := h3 rfl
    subst hd
    exact ⟨l, A, c, bs', rfl, ho, hll, hrd, hg, hl, hh⟩

theorem fin_saved {w w3 : World} {R : Nat} {T : TypeId} {bs bs3 : List UInt8} {bad : Bool} {x1 : ByteArray} {b2 b3 : Nat} {A2 A3 : Option Addr} {c2 c3 : Nat} {l2 : List V} {l3 : List In} (h2 : w.heap.size < b2) (ho2 : OwnList 53 4 (VCells 41) w3 b2 (.slice A2 l2.length c2) l2) (ho3 : OwnList 83 5 (InCells 41) w3 b3 (.slice A3 l3.length c3) l3) (h3 : w.heap.size < b3)
    (hx : x1.size ≤ 4194304) (hll2 : l2.length ≤ 4194304) (hll3 : l3.length ≤ 4194304) (hR : R < w.heap.size) (hz : Blk w3 w.heap.size 44 [.string ⟨#[]⟩, .slice none 0 0, .slice none 0 0]) (hrd : Rd w3 R T [.int .i64 0] bs3 bad) (hG : w.grownBy w3 (some R)) (hle : bs3.length ≤ bs.length) (hd : (okS bad bs).bind (decS 40) = okS bad (⟨x1, l2, l3⟩, bs3)) :
    RyPost (SvCells 41) (decS 40) w R T bs bad (.returned (.agg #[.string x1, .slice A2 l2.length c2, .slice A3 l3.length c3])) (((w3.setCell ⟨w.heap.size, 0, none⟩ (.string x1)).setCell ⟨w.heap.size, 1, none⟩ (.slice A2 l2.length c2)).setCell ⟨w.heap.size, 2, none⟩ (.slice A3 l3.length c3)) ∧ Blk (((w3.setCell ⟨w.heap.size, 0, none⟩ (.string x1)).setCell ⟨w.heap.size, 1, none⟩ (.slice A2 l2.length c2)).setCell ⟨w.heap.size, 2, none⟩ (.slice A3 l3.length c3)) w.heap.size 44 [.string x1, .slice A2 l2.length c2, .slice A3 l3.length c3] := by
  have e : setRow w3 w.heap.size 0 [.string x1, .slice A2 l2.length c2, .slice A3 l3.length c3] = (((w3.setCell ⟨w.heap.size, 0, none⟩ (.string x1)).setCell ⟨w.heap.size, 1, none⟩ (.slice A2 l2.length c2)).setCell ⟨w.heap.size, 2, none⟩ (.slice A3 l3.length c3)) := rfl
  rw [← e]
  refine ⟨?_, setRow_blk hz _ rfl⟩
  obtain ⟨vs2, _, g1, g2, hr2, ha2⟩ := ho2.reads (VCells.stable 41) (by omega)
  obtain ⟨vs3, _, g3, g4, hr3, ha3⟩ := ho3.reads (InCells.stable 41) (by omega)
  refine ⟨⟨x1, l2, l3⟩, [.string x1, .slice A2 l2.length c2, .slice A3 l3.length c3], bs3, rfl, ?_, hrd.keep (setRow_same (by omega) _ _ _), setRow_grown (.inr (Nat.le_refl _)) _ _ _ hG, hle, hd⟩
  have k2 : ∀ b, b2 ≤ b → b ≠ w.heap.size := fun b hb => by omega
  have s2 : Same (fun b => b2 ≤ b) w3 (setRow w3 w.heap.size 0 [.string x1, .slice A2 l2.length c2, .slice A3 l3.length c3]) := setRow_same (by omega) _ _ _
  have s3 : Same (fun b => b3 ≤ b) w3 (setRow w3 w.heap.size 0 [.string x1, .slice A2 l2.length c2, .slice A3 l3.length c3]) := setRow_same (by omega) _ _ _
  exact ⟨A2, c2, vs2, A3, c3, vs3, rfl, by simp only; omega, ⟨hll2, g1, g2⟩, ⟨hll3, g3, g4⟩, (hr2.keep s2).imp (by omega) fun b hb _ => by omega, (ha2.imp fun _ _ h => h.keep s2).imp fun _ _ h => h.imp fun b hb _ => by omega, (hr3.keep s3).imp (by omega) fun b hb _ => by omega, (ha3.imp fun _ _ h => (InCells.stable 41).keep h s3).imp fun _ _ h => (InCells.stable 41).imp h fun b hb _ => by omega⟩

set_option maxRecDepth 100000 in
set_option maxHeartbeats 4000000 in
theorem rsaved_any (w : World) (R : Nat) (T : TypeId) (bs : List UInt8) (bad : Bool) (hlen : bs.length ≤ 4194304) (h : Rd w R T [.int .i64 0] bs bad) (hf : bad = false → (decS 40 bs).isSome = true) :
    Calls Try.prog 83 #[.pointer (some ⟨R, 0, none⟩)] w (RyPost (SvCells 41) (decS 40) w R T bs bad) := by
  have l1 := h.lt
  have C0 : Cur (decS 40) bad bs (seqD textD fun a => seqD (listD (decV 40)) fun s => seqD (listD (decI 40)) fun i => retD ⟨a, s, i⟩) bs := ⟨rfl, hf⟩
  clear hf
  obtain ⟨W0, hW0⟩ : ∃ W0, W0 = w.alloc (.cells #[.string ⟨#[]⟩, .slice none 0 0, .slice none 0 0] 44) := ⟨_, rfl⟩
  have hrd0 : Rd W0 R T [.int .i64 0] bs bad := by rw [hW0]; exact h.alloc _
  have hG0 : w.grownBy W0 (some R) := by rw [hW0]; exact grownBy_alloc (World.grownBy.refl w _) _
  have hB0 : Blk W0 w.heap.size 44 [.string ⟨#[]⟩, .slice none 0 0, .slice none 0 0] := by rw [hW0]; exact Blk.new w _ _
  have HW := Lib.hid hW0
  have lR := hrd0.lt
  have hzl := hB0.lt
  clear hW0 h
  go_enter Try.func83, Try.ntmps83
  go_upto_region 1 with (fail)
  rw [← HW.out]
  clear HW
  refine wp_region_any (by kernel_rfl) ?_
  change wpAny _ _ _ _ _ _ _ (World.drew _)
  repeat (first | (refine wpAny_take (i := 0) (v := .pointer (some ⟨R, 0, none⟩)) rfl ?_ ?_ ?_ (fun _ _ _ h => h) (Or.inl ⟨by rfl, ?_⟩) ?_; (· decide +kernel); (· decide +kernel); (· decide +kernel); (· (intro w; go_simp))) | (refine wpAny_take (i := 1) (v := .pointer (some ⟨R, 0, none⟩)) rfl ?_ ?_ ?_ (fun _ _ _ h => h) (Or.inl ⟨by rfl, ?_⟩) ?_; (· decide +kernel); (· decide +kernel); (· decide +kernel); (· (intro w; go_simp))) | (refine wpAny_take (i := 2) (v := .pointer (some ⟨R, 0, none⟩)) rfl ?_ ?_ ?_ (fun _ _ _ h => h) (Or.inl ⟨by rfl, ?_⟩) ?_; (· decide +kernel); (· decide +kernel); (· decide +kernel); (· (intro w; go_simp))) | (refine wpAny_take (i := 4) (v := .pointer (some ⟨R, 0, none⟩)) rfl ?_ ?_ ?_ (fun _ _ _ h => h) (Or.inl ⟨by rfl, ?_⟩) ?_; (· decide +kernel); (· decide +kernel); (· decide +kernel); (· (intro w; go_simp))) | (refine wpAny_take (i := 5) (v := .pointer (some ⟨R, 0, none⟩)) rfl ?_ ?_ ?_ (fun _ _ _ h => h) (Or.inl ⟨by rfl, ?_⟩) ?_; (· decide +kernel); (· decide +kernel); (· decide +kernel); (· (intro w; go_simp))) | (refine wpAny_take (i := 6) (v := .pointer (some ⟨R, 0, none⟩)) rfl ?_ ?_ ?_ (fun _ _ _ h => h) (Or.inl ⟨by rfl, ?_⟩) ?_; (· decide +kernel); (· decide +kernel); (· decide +kernel); (· (intro w; go_simp))) | (refine wpAny_take (i := 7) (v := .pointer (some ⟨R, 0, none⟩)) rfl ?_ ?_ ?_ (fun _ _ _ h => h) (Or.inl ⟨by rfl, ?_⟩) ?_; (· decide +kernel); (· decide +kernel); (· decide +kernel); (· (intro w; go_simp))) | (refine wpAny_take (i := 10) (v := .pointer (some ⟨R, 0, none⟩)) rfl ?_ ?_ ?_ (fun _ _ _ h => h) (Or.inl ⟨by rfl, ?_⟩) ?_; (· decide +kernel); (· decide +kernel); (· decide +kernel); (· (intro w; go_simp))) | (refine wpAny_take (i := 11) (v := .pointer (some ⟨R, 0, none⟩)) rfl ?_ ?_ ?_ (fun _ _ _ h => h) (Or.inl ⟨by rfl, ?_⟩) ?_; (· decide +kernel); (· decide +kernel); (· decide +kernel); (· (intro w; go_simp))) | (refine wpAny_take (i := 12) (v := .pointer (some ⟨R, 0, none⟩)) rfl ?_ ?_ ?_ (fun _ _ _ h => h) (Or.inl ⟨by rfl, ?_⟩) ?_; (· decide +kernel); (· decide +kernel); (· decide +kernel); (· (intro w; go_simp))) | (refine wpAny_take (i := 13) (v := .pointer (some ⟨R, 0, none⟩)) rfl ?_ ?_ ?_ (fun _ _ _ h => h) (Or.inl ⟨by rfl, ?_⟩) ?_; (· decide +kernel); (· decide +kernel); (· decide +kernel); (· (intro w; go_simp))) | (refine wpAny_take (i := 8) (v := .func (.func 92) #[.pointer (some ⟨R, 0, none⟩)] #[]) rfl ?_ ?_ ?_ (fun _ _ _ h => h) (Or.inl ⟨by rfl, ?_⟩) ?_; (· decide +kernel); (· decide +kernel); (· decide +kernel); (· (intro w; go_simp))) | (refine wpAny_take (i := 14) (v := .func (.func 94) #[.pointer (some ⟨R, 0, none⟩)] #[]) rfl ?_ ?_ ?_ (fun _ _ _ h => h) (Or.inl ⟨by rfl, ?_⟩) ?_; (· decide +kernel); (· decide +kernel); (· decide +kernel); (· (intro w; go_simp))))
  refine wpAny_ready (rs := [3]) (by decide +kernel) (by simp) ?_
  refine AllReady.cons rfl (fun K hK => ?_) AllReady.nil
  go_simp
  refine (rtext_any _ R T [.int .i64 0] bs bad (by exact hrd0)).mono ?_
  rintro e w1 ⟨v1, x1, bs1, bad1, rfl, ⟨rfl, ht1⟩, hrd1, hg1, hl1, hh1⟩
  obtain ⟨hb1, C1⟩ := C0.step hh1.out
  subst hb1
  clear hh1
  have K1 : W0.grownBy w1 (some R) := grownBy_trans (by exact (grownBy_drew (World.grownBy.refl W0 _))) hg1
  have q1 := K1.size
  have r1 := hrd1.lt
  try dsimp only
  refine hK _ _ ?_
  clear hK K
  repeat (first | (refine wpAny_take (i := 0) (v := .pointer (some ⟨R, 0, none⟩)) rfl ?_ ?_ ?_ (fun _ _ _ h => h) (Or.inl ⟨by rfl, ?_⟩) ?_; (· decide +kernel); (· decide +kernel); (· decide +kernel); (· (intro w; go_simp))) | (refine wpAny_take (i := 1) (v := .pointer (some ⟨R, 0, none⟩)) rfl ?_ ?_ ?_ (fun _ _ _ h => h) (Or.inl ⟨by rfl, ?_⟩) ?_; (· decide +kernel); (· decide +kernel); (· decide +kernel); (· (intro w; go_simp))) | (refine wpAny_take (i := 2) (v := .pointer (some ⟨R, 0, none⟩)) rfl ?_ ?_ ?_ (fun _ _ _ h => h) (Or.inl ⟨by rfl, ?_⟩) ?_; (· decide +kernel); (· decide +kernel); (· decide +kernel); (· (intro w; go_simp))) | (refine wpAny_take (i := 4) (v := .pointer (some ⟨R, 0, none⟩)) rfl ?_ ?_ ?_ (fun _ _ _ h => h) (Or.inl ⟨by rfl, ?_⟩) ?_; (· decide +kernel); (· decide +kernel); (· decide +kernel); (· (intro w; go_simp))) | (refine wpAny_take (i := 5) (v := .pointer (some ⟨R, 0, none⟩)) rfl ?_ ?_ ?_ (fun _ _ _ h => h) (Or.inl ⟨by rfl, ?_⟩) ?_; (· decide +kernel); (· decide +kernel); (· decide +kernel); (· (intro w; go_simp))) | (refine wpAny_take (i := 6) (v := .pointer (some ⟨R, 0, none⟩)) rfl ?_ ?_ ?_ (fun _ _ _ h => h) (Or.inl ⟨by rfl, ?_⟩) ?_; (· decide +kernel); (· decide +kernel); (· decide +kernel); (· (intro w; go_simp))) | (refine wpAny_take (i := 7) (v := .pointer (some ⟨R, 0, none⟩)) rfl ?_ ?_ ?_ (fun _ _ _ h => h) (Or.inl ⟨by rfl, ?_⟩) ?_; (· decide +kernel); (· decide +kernel); (· decide +kernel); (· (intro w; go_simp))) | (refine wpAny_take (i := 10) (v := .pointer (some ⟨R, 0, none⟩)) rfl ?_ ?_ ?_ (fun _ _ _ h => h) (Or.inl ⟨by rfl, ?_⟩) ?_; (· decide +kernel); (· decide +kernel); (· decide +kernel); (· (intro w; go_simp))) | (refine wpAny_take (i := 11) (v := .pointer (some ⟨R, 0, none⟩)) rfl ?_ ?_ ?_ (fun _ _ _ h => h) (Or.inl ⟨by rfl, ?_⟩) ?_; (· decide +kernel); (· decide +kernel); (· decide +kernel); (· (intro w; go_simp))) | (refine wpAny_take (i := 12) (v := .pointer (some ⟨R, 0, none⟩)) rfl ?_ ?_ ?_ (fun _ _ _ h => h) (Or.inl ⟨by rfl, ?_⟩) ?_; (· decide +kernel); (· decide +kernel); (· decide +kernel); (· (intro w; go_simp))) | (refine wpAny_take (i := 13) (v := .pointer (some ⟨R, 0, none⟩)) rfl ?_ ?_ ?_ (fun _ _ _ h => h) (Or.inl ⟨by rfl, ?_⟩) ?_; (· decide +kernel); (· decide +kernel); (· decide +kernel); (· (intro w; go_simp))) | (refine wpAny_take (i := 8) (v := .func (.func 92) #[.pointer (some ⟨R, 0, none⟩)] #[]) rfl ?_ ?_ ?_ (fun _ _ _ h => h) (Or.inl ⟨by rfl, ?_⟩) ?_; (· decide +kernel); (· decide +kernel); (· decide +kernel); (· (intro w; go_simp))) | (refine wpAny_take (i := 14) (v := .func (.func 94) #[.pointer (some ⟨R, 0, none⟩)] #[]) rfl ?_ ?_ ?_ (fun _ _ _ h => h) (Or.inl ⟨by rfl, ?_⟩) ?_; (· decide +kernel); (· decide +kernel); (· decide +kernel); (· (intro w; go_simp))))
  refine wpAny_ready (rs := [9]) (by decide +kernel) (by simp) ?_
  refine AllReady.cons rfl (fun K hK => ?_) AllReady.nil
  go_simp
  refine (someVa_any _ R T bs1 bad1 (by omega) (by exact hrd1) C1.head).mono ?_
  rintro e w2 ⟨l2, A2, c2, bs2, rfl, ho2, hll2, hrd2, hg2, hl2, hh2⟩
  obtain ⟨_, C2⟩ := C1.step hh2.out
  clear hh2
  have K2 : W0.grownBy w2 (some R) := grownBy_trans (by exact K1) hg2
  have q2 := K2.size
  have r2 := hrd2.lt
  try dsimp only
  refine hK _ _ ?_
  clear hK K
  repeat (first | (refine wpAny_take (i := 0) (v := .pointer (some ⟨R, 0, none⟩)) rfl ?_ ?_ ?_ (fun _ _ _ h => h) (Or.inl ⟨by rfl, ?_⟩) ?_; (· decide +kernel); (· decide +kernel); (· decide +kernel); (· (intro w; go_simp))) | (refine wpAny_take (i := 1) (v := .pointer (some ⟨R, 0, none⟩)) rfl ?_ ?_ ?_ (fun _ _ _ h => h) (Or.inl ⟨by rfl, ?_⟩) ?_; (· decide +kernel); (· decide +kernel); (· decide +kernel); (· (intro w; go_simp))) | (refine wpAny_take (i := 2) (v := .pointer (some ⟨R, 0, none⟩)) rfl ?_ ?_ ?_ (fun _ _ _ h => h) (Or.inl ⟨by rfl, ?_⟩) ?_; (· decide +kernel); (· decide +kernel); (· decide +kernel); (· (intro w; go_simp))) | (refine wpAny_take (i := 4) (v := .pointer (some ⟨R, 0, none⟩)) rfl ?_ ?_ ?_ (fun _ _ _ h => h) (Or.inl ⟨by rfl, ?_⟩) ?_; (· decide +kernel); (· decide +kernel); (· decide +kernel); (· (intro w; go_simp))) | (refine wpAny_take (i := 5) (v := .pointer (some ⟨R, 0, none⟩)) rfl ?_ ?_ ?_ (fun _ _ _ h => h) (Or.inl ⟨by rfl, ?_⟩) ?_; (· decide +kernel); (· decide +kernel); (· decide +kernel); (· (intro w; go_simp))) | (refine wpAny_take (i := 6) (v := .pointer (some ⟨R, 0, none⟩)) rfl ?_ ?_ ?_ (fun _ _ _ h => h) (Or.inl ⟨by rfl, ?_⟩) ?_; (· decide +kernel); (· decide +kernel); (· decide +kernel); (· (intro w; go_simp))) | (refine wpAny_take (i := 7) (v := .pointer (some ⟨R, 0, none⟩)) rfl ?_ ?_ ?_ (fun _ _ _ h => h) (Or.inl ⟨by rfl, ?_⟩) ?_; (· decide +kernel); (· decide +kernel); (· decide +kernel); (· (intro w; go_simp))) | (refine wpAny_take (i := 10) (v := .pointer (some ⟨R, 0, none⟩)) rfl ?_ ?_ ?_ (fun _ _ _ h => h) (Or.inl ⟨by rfl, ?_⟩) ?_; (· decide +kernel); (· decide +kernel); (· decide +kernel); (· (intro w; go_simp))) | (refine wpAny_take (i := 11) (v := .pointer (some ⟨R, 0, none⟩)) rfl ?_ ?_ ?_ (fun _ _ _ h => h) (Or.inl ⟨by rfl, ?_⟩) ?_; (· decide +kernel); (· decide +kernel); (· decide +kernel); (· (intro w; go_simp))) | (refine wpAny_take (i := 12) (v := .pointer (some ⟨R, 0, none⟩)) rfl ?_ ?_ ?_ (fun _ _ _ h => h) (Or.inl ⟨by rfl, ?_⟩) ?_; (· decide +kernel); (· decide +kernel); (· decide +kernel); (· (intro w; go_simp))) | (refine wpAny_take (i := 13) (v := .pointer (some ⟨R, 0, none⟩)) rfl ?_ ?_ ?_ (fun _ _ _ h => h) (Or.inl ⟨by rfl, ?_⟩) ?_; (· decide +kernel); (· decide +kernel); (· decide +kernel); (· (intro w; go_simp))) | (refine wpAny_take (i := 8) (v := .func (.func 92) #[.pointer (some ⟨R, 0, none⟩)] #[]) rfl ?_ ?_ ?_ (fun _ _ _ h => h) (Or.inl ⟨by rfl, ?_⟩) ?_; (· decide +kernel); (· decide +kernel); (· decide +kernel); (· (intro w; go_simp))) | (refine wpAny_take (i := 14) (v := .func (.func 94) #[.pointer (some ⟨R, 0, none⟩)] #[]) rfl ?_ ?_ ?_ (fun _ _ _ h => h) (Or.inl ⟨by rfl, ?_⟩) ?_; (· decide +kernel); (· decide +kernel); (· decide +kernel); (· (intro w; go_simp))))
  refine wpAny_ready (rs := [15]) (by decide +kernel) (by simp) ?_
  refine AllReady.cons rfl (fun K hK => ?_) AllReady.nil
  go_simp
  refine (someIn_any _ R T bs2 bad1 (by omega) (by exact hrd2) C2.head).mono ?_
  rintro e w3 ⟨l3, A3, c3, bs3, rfl, ho3, hll3, hrd3, hg3, hl3, hh3⟩
  obtain ⟨_, C3⟩ := C2.step hh3.out
  clear hh3
  have K3 : W0.grownBy w3 (some R) := grownBy_trans (by exact K2) hg3
  have q3 := K3.size
  have r3 := hrd3.lt
  have hz3 := hB0.grown K3 (by simp; omega)
  have k0 := hz3.cell 0
  have k1 := hz3.cell 1
  have k2 := hz3.cell 2
  have j0 := hz3.frozen 0
  have j1 := hz3.frozen 1
  have j2 := hz3.frozen 2
  have jl := hz3.lt
  simp only [List.getElem?_cons_succ, List.getElem?_cons_zero] at k0 k1 k2
  have hG3 := grownBy_trans hG0 K3
  have ho2' := ho2.keep (VCells.stable 41) (w' := w3) (Same.of_grown hg3 fun b hb _ => by simp; omega)
  have HFQ := Lib.hid (fin_saved (x1 := x1) (by omega) ho2' ho3 (by omega) (by omega) hll2 hll3 l1 hz3 hrd3 hG3 (by omega) C3.fin)
  try dsimp only
  refine hK _ _ ?_
  clear hK K
  repeat (first | (refine wpAny_take (i := 16) (v := .agg #[.string x1, .slice A2 l2.length c2, .slice A3 l3.length c3]) rfl ?_ ?_ ?_ (fun _ _ _ h => h) (Or.inl ⟨by rfl, ?_⟩) ?_; (· decide +kernel); (· decide +kernel); (· decide +kernel); (· (intro w; go_simp))))
  refine wpAny_ready (rs := [17]) (by decide +kernel) (by simp) ?_
  refine AllReady.cons rfl (fun K hK => ?_) AllReady.nil
  go_simp
  refine hK _ _ ?_
  clear hK K
  refine wpAny_done (by decide +kernel) ?_ _
  go_wp2_with (fail)
  refine ret_blk rfl rfl HFQ.out.2 Try.underlying44 (by kernel_rfl) rfl ?_
  exact HFQ.out.1
end Go.Proofs.Yteojmmjanjilaaa
