/- Contracts of the toys' small methods: Late, Give, Offer. -/
import Derived.Test.YtlpkgheggbcidaaDoorProg
import Derived.Test.YtlpkgheggbcidaaDoorRpMem
import Derived.KernelRfl
import Derived.WalkSpells
import Derived.Lib.SliceRun
import Derived.StillTailTactics
import Derived.Deep.DeepCutAuto
set_option linter.unusedVariables false
namespace Go.Proofs.YtlpkgheggbcidaaDoor
open Go.RowKit Go.Mem Go.Rp
/-- a toy has changed, and nothing else that was there -/
def ToyPost (w : World) (B T : Nat) (t : Ty) (v : Value) (e : Ending) (w' : World) : Prop := e = .returned v ∧ ToyAt w' B T t ∧ w.grownBy w' (some T)
theorem grown_put {w0 w : World} {T : Nat} (h : w0.grownBy w (some T)) (i : Nat) (u : Value) : w0.grownBy (w.setCell ⟨T, i, none⟩ u) (some T) := grownBy_setCell h (.inl rfl) u
theorem toy_same {w w' : World} {B T : Nat} {own : Nat → Prop} (hg : w.grownBy w' (some T)) (hT : B ≤ T) : Same (fun b => b < B) w w' := Same.of_grown hg fun b hb _ e => by injection e; omega
set_option maxRecDepth 100000 in
theorem late_any (w : World) (B T : Nat) (t : Ty) (h : ToyAt w B T t) (hT : B ≤ T) :
    Calls Tryd.prog 105 #[.pointer (some ⟨T, 0, none⟩)] w (ToyPost w B T (lateT t) (.tuple #[])) := by
  have H0 := Lib.hid h
  obtain ⟨A, c, LA, ln, lc, hb, hs, h4⟩ := h
  obtain ⟨sc, i, sum, self, waits, asks, ⟨kd, nm, tx, ⟨vk, vn⟩, ar⟩⟩ := t
  have c2 := hb.cell 2
  have c4 := hb.cell 4
  have c7 := hb.cell 7
  simp only [tyC, List.getElem?_cons_zero, List.getElem?_cons_succ] at c2 c4 c7
  have f2 := hb.frozen 2
  have f4 := hb.frozen 4
  have lT := hb.lt
  have HB := Lib.hid (And.intro hb (And.intro hs h4))
  clear hb hs h4
  cases waits with
  | false =>
    go_enter Tryd.func105, Tryd.ntmps105
    go_wp2_with (fail)
    go_end0
    refine ⟨rfl, ?_, World.grownBy.refl _ _⟩
    simpa [lateT] using H0.out
  | true =>
    by_cases h0 : 0 ≤ nm
    · go_enter Tryd.func105, Tryd.ntmps105
      go_wp2_with (fail)
      go_end0
      have hg := grown_put (grown_put (World.grownBy.refl w (some T)) 4 (.bool false)) 2 (.int .i64 (wrap64 (sum + 7)))
      refine ⟨rfl, ?_, hg⟩
      have e : lateT ⟨sc, i, sum, self, true, asks, ⟨kd, nm, tx, ⟨vk, vn⟩, ar⟩⟩ = ⟨sc, i, wr (sum + 7), self, false, asks, ⟨kd, nm, tx, ⟨vk, vn⟩, ar⟩⟩ := by simp [lateT, h0]
      rw [e]
      exact ⟨A, c, LA, ln, lc, (HB.out.1.put 4 _).put 2 _, HB.out.2.1.keep (toy_same (own := Any) hg hT), fun h => by cases h⟩
    · have h1 : decide (0 ≤ nm) = false := by simpa using h0
      go_enter Tryd.func105, Tryd.ntmps105
      go_wp2_with (fail)
      go_end0
      refine ⟨rfl, ?_, World.grownBy.refl _ _⟩
      have e : lateT ⟨sc, i, sum, self, true, asks, ⟨kd, nm, tx, ⟨vk, vn⟩, ar⟩⟩ = ⟨sc, i, sum, self, true, asks, ⟨kd, nm, tx, ⟨vk, vn⟩, ar⟩⟩ := by simp [lateT, h0]
      rw [e]
      exact H0.out
theorem toy_fin {w w' : World} {B T c : Nat} {A LA : Option Addr} {ln lc : Nat} {sc : List Int} {t' : Ty} (hs : ScAt w B A c sc) (hg : w.grownBy w' (some T)) (hT : B ≤ T) (hsc : t'.sc = sc) (hb : Blk w' T 168 (tyC A c t' (.slice LA ln lc))) (h4 : t'.waits = true → t'.last.kd ≠ 4) : ToyAt w' B T t' := by
  subst hsc
  exact ⟨A, c, LA, ln, lc, hb, hs.keep (toy_same (own := Any) hg hT), h4⟩
theorem grown_box (w : World) (T : Nat) (o : Obj) : w.grownBy (w.alloc o) (some T) := grownBy_alloc (World.grownBy.refl w _) o
set_option maxRecDepth 100000 in
theorem give_any (w : World) (B T : Nat) (t : Ty) (v : Vl) (h : ToyAt w B T t) (hT : B ≤ T) :
    Calls Tryd.prog 104 #[.pointer (some ⟨T, 0, none⟩), vlV v] w (ToyPost w B T (giveT t v) (.tuple #[])) := by
  obtain ⟨A, c, LA, ln, lc, hb, hs, h4⟩ := h
  obtain ⟨sc, i, sum, self, waits, asks, ⟨kd, nm, tx, ⟨vk, vn⟩, ar⟩⟩ := t
  obtain ⟨vkd, vnm⟩ := v
  have c2 := hb.cell 2
  have c5 := hb.cell 5
  simp only [tyC, List.getElem?_cons_zero, List.getElem?_cons_succ] at c2 c5
  have f2 := hb.frozen 2
  have f5 := hb.frozen 5
  have lT := hb.lt
  have HB := Lib.hid (And.intro hb (And.intro hs h4))
  clear hb hs h4
  unfold vlV
  cases asks with
  | false =>
    go_enter Tryd.func104, Tryd.ntmps104
    go_wp2_with (fail)
    go_end0
    exact ⟨rfl, toy_fin HB.out.2.1 (grown_box _ _ _) hT rfl (HB.out.1.alloc _) HB.out.2.2, grown_box _ _ _⟩
  | true =>
    go_enter Tryd.func104, Tryd.ntmps104
    go_wp2_with (fail)
    go_region
    all_goals go_end0
    all_goals
      have hg := grownBy_drew (grownBy_alloc (grown_put (grown_put (World.grownBy.refl w (some T)) 5 (.bool false)) 2 (.int .i64 (wrap64 (sum + vnm)))) (Obj.cells #[.int .i64 vkd, .int .i64 vnm, .string ⟨#[]⟩, .slice none 0 0] 56))
      refine ⟨rfl, ?_, hg⟩
      exact toy_fin HB.out.2.1 hg hT rfl (((HB.out.1.put 5 _).put 2 _).alloc _).drew HB.out.2.2
/-- what Offer does -/
def offT (t : Ty) (v : Vl) : Ty := (offerT t v).getD t
set_option maxRecDepth 100000 in
theorem offer_toy (w : World) (B T : Nat) (t : Ty) (v : Vl) (h : ToyAt w B T t) (hT : B ≤ T) :
    Calls Tryd.prog 106 #[.pointer (some ⟨T, 0, none⟩), vlV v] w (ToyPost w B T (offT t v) (.bool (offerT t v).isSome)) := by
  obtain ⟨A, c, LA, ln, lc, hb, hs, h4⟩ := h
  obtain ⟨sc, i, sum, self, waits, asks, ⟨kd, nm, tx, ⟨vk, vn⟩, ar⟩⟩ := t
  obtain ⟨vkd, vnm⟩ := v
  have c2 := hb.cell 2
  have c4 := hb.cell 4
  simp only [tyC, List.getElem?_cons_zero, List.getElem?_cons_succ] at c2 c4
  have f2 := hb.frozen 2
  have f4 := hb.frozen 4
  have lT := hb.lt
  have HB := Lib.hid (And.intro hb (And.intro hs h4))
  clear hb hs h4
  unfold vlV
  by_cases hk : waits = true ∧ vkd = 2 ∧ vnm.tmod 3 ≠ 0
  · obtain ⟨rfl, rfl, h3⟩ := hk
    have h3' : (vnm.tmod 3 == 0) = false := by simpa using h3
    have e1 : offT ⟨sc, i, sum, self, true, asks, ⟨kd, nm, tx, ⟨vk, vn⟩, ar⟩⟩ ⟨2, vnm⟩ = ⟨sc, i, wr (sum + vnm.tmod 1000), self, false, asks, ⟨kd, nm, tx, ⟨vk, vn⟩, ar⟩⟩ := by simp [offT, offerT, h3]
    have e2 : (offerT ⟨sc, i, sum, self, true, asks, ⟨kd, nm, tx, ⟨vk, vn⟩, ar⟩⟩ ⟨2, vnm⟩).isSome = true := by simp [offerT, h3]
    rw [e1, e2]
    clear e1 e2
    go_enter Tryd.func106, Tryd.ntmps106
    go_wp2_with (fail)
    go_region
    all_goals go_wp2_with (fail)
    all_goals go_ret
    all_goals
      have hg := grownBy_drew (grownBy_alloc (grown_put (grown_put (World.grownBy.refl w (some T)) 4 (.bool false)) 2 (.int .i64 (wrap64 (sum + vnm.tmod 1000)))) (Obj.cells #[.int .i64 2, .int .i64 vnm, .string ⟨#[]⟩, .slice none 0 0] 56))
      refine ⟨rfl, ?_, hg⟩
      exact toy_fin HB.out.2.1 hg hT rfl (((HB.out.1.put 4 _).put 2 _).alloc _).drew (fun h => by cases h)
  · have e0 : offerT ⟨sc, i, sum, self, waits, asks, ⟨kd, nm, tx, ⟨vk, vn⟩, ar⟩⟩ ⟨vkd, vnm⟩ = none := by
      unfold offerT
      rw [if_pos]
      by_cases h1 : waits = true
      · by_cases h2 : vkd = 2
        · by_cases h3 : vnm.tmod 3 = 0
          · exact .inr (.inr h3)
          · exact absurd ⟨h1, h2, h3⟩ hk
        · exact .inr (.inl h2)
      · exact .inl (by simpa using h1)
    unfold offT
    rw [e0]
    have hfin := And.intro (toy_fin HB.out.2.1 (grown_box w T (Obj.cells #[.int .i64 vkd, .int .i64 vnm, .string ⟨#[]⟩, .slice none 0 0] 56)) hT rfl (HB.out.1.alloc _) HB.out.2.2) (grown_box w T (Obj.cells #[.int .i64 vkd, .int .i64 vnm, .string ⟨#[]⟩, .slice none 0 0] 56))
    have HF := Lib.hid hfin
    clear e0 hfin HB
    cases hw : waits with
    | false =>
      subst hw
      clear hk
      go_enter Tryd.func106, Tryd.ntmps106
      go_wp2_with (fail)
      go_ret
      exact ⟨rfl, HF.out⟩
    | true =>
      subst hw
      by_cases h2 : vkd = 2
      · subst h2
        have h3 : (vnm.tmod 3 == 0) = true := by
          by_cases h : vnm.tmod 3 = 0
          · simpa using h
          · exact absurd ⟨rfl, rfl, h⟩ hk
        clear hk
        go_enter Tryd.func106, Tryd.ntmps106
        go_wp2_with (fail)
        go_ret
        exact ⟨rfl, HF.out⟩
      · have h3 : (vkd == 2) = false := by simpa using h2
        have h4 : (vkd != 2) = true := by simpa using h2
        clear hk h2
        go_enter Tryd.func106, Tryd.ntmps106
        go_wp2_with (fail)
        go_ret
        exact ⟨rfl, HF.out⟩
end Go.Proofs.YtlpkgheggbcidaaDoor
