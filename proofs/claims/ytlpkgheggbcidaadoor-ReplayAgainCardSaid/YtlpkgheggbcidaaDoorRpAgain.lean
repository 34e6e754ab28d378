/- Contracts of package replay's Again, Told and New. -/
import Derived.Test.YtlpkgheggbcidaaDoorRpPlay
import Derived.Lib.SliceRun
set_option linter.unusedVariables false
namespace Go.Rp
open Go.Mem Go.RowKit
/-- what is left of a run by its choices behind the first k -/
def AgainTo (s : Wd) (l : List Ch) (k : Nat) (s' : Wd) : Prop := againF s l = ((againF s' (l.drop k)).1, k + (againF s' (l.drop k)).2.1, (againF s' (l.drop k)).2.2)
theorem AgainTo.start (s : Wd) (l : List Ch) : AgainTo s l 0 s := by simp [AgainTo]
theorem AgainTo.next {s s' : Wd} {l : List Ch} {k : Nat} (h : AgainTo s l k s') (hk : k < l.length) (hc : l[k] ∈ choicesF s') : AgainTo s l (k + 1) (stepF s' l[k]) := by
  unfold AgainTo at h ⊢
  rw [h, List.drop_eq_getElem_cons hk]
  simp only [againF, if_pos hc]
  rw [Nat.add_assoc, Nat.add_comm 1]
theorem AgainTo.stop {s s' : Wd} {l : List Ch} {k : Nat} (h : AgainTo s l k s') (hk : k < l.length) (hc : l[k] ∉ choicesF s') : againF s l = (s', k, false) := by
  unfold AgainTo at h
  rw [h, List.drop_eq_getElem_cons hk]
  simp only [againF, if_neg hc, Nat.add_zero]
theorem AgainTo.done {s s' : Wd} {l : List Ch} (h : AgainTo s l l.length s') : againF s l = (s', l.length, true) := by
  unfold AgainTo at h
  rw [h, List.drop_length]
  simp [againF]
end Go.Rp
namespace Go.Proofs.YtlpkgheggbcidaaDoor
open Go.RowKit Go.Mem Go.Rp Go.Maps
def AgainPost (w : World) (B T : Nat) (col : Nat → Cl) (r : Wd × Nat × Bool) (e : Ending) (w' : World) : Prop := e = .returned (.tuple #[.int .i64 (r.2.1 : Nat), .int .i64 (if r.2.2 then 0 else 4)]) ∧ ∃ col', WdAt w' B T col' r.1 ∧ Stp col col' w w'
set_option maxRecDepth 100000 in
set_option maxHeartbeats 8000000 in
theorem again_any (w : World) (B T : Nat) (col : Nat → Cl) (s : Wd) (h : WdAt w B T col s) {n : Nat} (hI : Inv s n) (CA : Option Addr) (cn cc : Nat) (l : List Ch) (hp : cn = l.length) (hpn : cn ≤ 400) (hn : n ≤ 200000) (hr : Reads w (fun b => col b = .out) 3 CA cn (cat chC l)) :
    Calls Tryd.prog 9 #[.pointer (some ⟨T, 0, none⟩), .slice CA cn cc] w (AgainPost w B T col (againF s l)) := by
  have H := Lib.hid (And.intro hr hp)
  have HI := Lib.hid hI
  have H0 := Lib.hid h
  clear h hI hr hp
  go_enter Tryd.func9, Tryd.ntmps9
  go_wp2_with (fail)
  go_loopw [11] (fun i wr => ∃ k : Nat, k ≤ cn ∧ i = .int .i64 k ∧ Hid (∃ s' col', WdAt wr B T col' s' ∧ Stp col col' w wr ∧ AgainTo s l k s' ∧ Inv s' (n + k))) (fun i _ => cn - (intOf i).toNat)
  case atStart => exact ⟨0, Nat.zero_le _, rfl, s, col, H0.out, Stp.refl _ _, AgainTo.start _ _, HI.out⟩
  case round =>
    obtain ⟨k, hk, rfl, hx⟩ := hrel
    obtain ⟨s', col', hW, hS, hA, hI'⟩ := hx.out
    by_cases hlt : k < cn
    · have hkl : k < l.length := by rw [← H.out.2]; exact hlt
      obtain ⟨cb, co, rfl, hD, hcell⟩ := cat_cell chC_len H.out.1 hlt H.out.2
      obtain ⟨x, hx2⟩ : ∃ x, x = l[k] := ⟨_, rfl⟩
      rw [← hx2] at hcell
      have hwl : cb < w.heap.size := lt_of_cell (hcell 0 (by omega))
      have same : wr.heap[cb]? = w.heap[cb]? := hS.g.block cb hwl (fun h => h hD)
      have q : ∀ j, j < 3 → wr.cell? ⟨cb, co + k * 3 + j, none⟩ = (chC x)[j]? := fun j hj => (World.cell?_of_block (w := w) same).trans (hcell j hj)
      have hcl : col' cb = .out := (hS.c cb hwl).2 hD
      have q0 := q 0 (by omega)
      have q1 := q 1 (by omega)
      have q2 := q 2 (by omega)
      simp only [chC, List.getElem?_cons_succ, List.getElem?_cons_zero, Nat.add_zero] at q0 q1 q2
      have lq := lt_of_cell q0
      have i1 : (k : Int) < (cn : Int) := by omega
      have i0 : (0 : Int) ≤ (k : Int) := by omega
      obtain ⟨xk, xa, xb⟩ := x
      simp only at q0 q1 q2
      obtain ⟨w3, hw3⟩ : ∃ W, W = wr.alloc (.cells #[.int .i64 xk, .int .i64 xa, .int .i64 xb] 36) := ⟨_, rfl⟩
      have b23 : Below wr.heap.size wr w3 := by rw [hw3]; exact (Below.refl _ _).alloc (Nat.le_refl _) _
      have h3 := hW.below b23 .out
      have st3 := hS.trans (Stp.below b23 .out)
      have TK := Lib.hid (take_any w3 B T _ s' h3 hI' (by omega) ⟨xk, xa, xb⟩)
      have HW3 := Lib.hid hw3
      have HX := Lib.hid hx2
      have HA := Lib.hid (And.intro hA (And.intro hI' st3))
      clear hcell same q hcl hw3 b23 h3 st3 hx2 hW hS hA hI' hx
      by_cases hm : (⟨xk, xa, xb⟩ : Ch) ∈ choicesF s'
      · have TK2 := TK.out
        rw [if_pos hm, if_pos hm] at TK2
        have HT := Lib.hid TK2
        have HM := Lib.hid hm
        clear TK TK2 hm
        go_wp2_with (fail)
        rw [← HW3.out]
        refine HT.out.mono ?_
        rintro e w4 ⟨rfl, col4, h4, st4⟩
        have hnx := HA.out.1.next hkl (by rw [← HX.out]; exact HM.out)
        rw [← HX.out] at hnx
        have HF := Lib.hid (And.intro h4 (And.intro (HA.out.2.2.trans st4) (And.intro hnx (HA.out.2.1.step ⟨xk, xa, xb⟩))))
        clear h4 st4 hnx q0 q1 q2
        go_wp2_with (fail)
        go_roundw
        case rel =>
          first
            | exact ⟨k + 1, by omega, by go_num, _, _, HF.out.1, HF.out.2.1, HF.out.2.2.1, HF.out.2.2.2⟩
            | ((repeat apply Exists.intro); exact ⟨⟨k + 1, by omega, by go_num, _, _, HF.out.1, HF.out.2.1, HF.out.2.2.1, HF.out.2.2.2⟩, rfl⟩)
        case measure => simp [intOf]; omega
      · have TK2 := TK.out
        rw [if_neg hm, if_neg hm] at TK2
        have HT := Lib.hid TK2
        have HM := Lib.hid hm
        clear TK TK2 hm
        go_wp2_with (fail)
        rw [← HW3.out]
        refine HT.out.mono ?_
        rintro e w4 ⟨rfl, col4, h4, st4⟩
        have HF := Lib.hid (And.intro h4 (HA.out.2.2.trans st4))
        clear h4 st4 q0 q1 q2
        go_wp2_with (fail)
        go_ret2
        rw [HA.out.1.stop hkl (by rw [← HX.out]; exact HM.out)]
        exact ⟨rfl, col4, HF.out.1, HF.out.2⟩
    · obtain rfl : k = cn := by omega
      have HF := Lib.hid (And.intro hW (And.intro hS hA))
      clear hW hS hA hx
      go_wp2_with (fail)
      go_ret2
      have h1 := HF.out.2.2
      rw [H.out.2] at h1
      rw [h1.done, ← H.out.2]
      exact ⟨rfl, col', HF.out.1, HF.out.2.1⟩
end Go.Proofs.YtlpkgheggbcidaaDoor
