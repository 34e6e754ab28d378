/- The snapshot of raw ones is right. -/
import Derived.Test.YtgcpclbkjplipaaStoreSnap
import Derived.Test.YtgcpclbkjplipaaMailGood
set_option linter.unusedVariables false
namespace Go.Proofs.Ytgcpclbkjplipaa
open Go.RowKit Go.Mem Go.Val Go.Chunk
theorem LCells.ok' {d : Nat} {w : World} {D : Nat → Prop} {cs : List Value} {x : L} (h : LCells d w D cs x) : okV d x.val := by
  obtain ⟨vs, rfl, _, hv⟩ := h
  exact hv.ok
theorem snF_nice {w : World} {D : Nat → Prop} {cs : List Value} {l : List Raw} {n : Int} (h : SnCells 41 w D cs (snF l n)) : NiceSn (snF l n) := by
  obtain ⟨A1, c1, vs1, A2, c2, vs2, _, _, _, _, _, ha1, _, ha2⟩ := h
  have e1 := restI_bd n 1000 (by omega)
  have e2 := restI_bd n 3 (by omega)
  have e3 := restI_bd (n.tdiv 7) 3 (by omega)
  have t1 : restN n 1000 = restI n 1000 := rfl
  have t2 : restN n 3 = restI n 3 := rfl
  have t3 : restN (n.tdiv 7) 3 = restI (n.tdiv 7) 3 := rfl
  have lp : (snF l n).parcels.length ≤ 5 := by simp [snF, snPs, t2]; omega
  have lw : (snF l n).ways.length ≤ 5 := by simp [snF, snWs, t3]; omega
  refine ⟨by simp [snF, t1]; omega, lp, lw, ?_, ?_, ?_, ?_⟩
  · intro p hp
    obtain ⟨i, hi, rfl⟩ := List.mem_iff_getElem.1 hp
    obtain ⟨x, _, hx⟩ := ha1.at_ hi
    have e : (snF l n).parcels[i] = parF (l.drop i) (1001 + (i : Int)) := by simp [snF, snPs]
    rw [e] at hx ⊢
    exact parF_nice _ _ ⟨by omega, by omega⟩ (PcCells.oks hx)
  · intro y hy
    obtain ⟨i, hi, rfl⟩ := List.mem_iff_getElem.1 hy
    obtain ⟨x, _, hx⟩ := ha2.at_ hi
    have e : (snF l n).ways[i] = ⟨1, 2 + (i : Int), snLs l (min l.length 3)⟩ := by simp [snF, snWs]
    rw [e] at hx ⊢
    obtain ⟨_, _, vs, _, _, _, _, hl⟩ := hx
    have hll : (snLs l (min l.length 3)).length ≤ 5 := by simp [snLs]; omega
    refine ⟨⟨by simp only; omega, by simp only; omega⟩, ⟨by simp only; omega, by simp only; omega⟩, by simp only; omega, fun z hz => ?_, hll⟩
    obtain ⟨j, hj, rfl⟩ := List.mem_iff_getElem.1 hz
    obtain ⟨u, _, hu⟩ := hl.at_ hj
    have e2 : (snLs l (min l.length 3))[j] = letF ((l.drop j).take 5) := by simp [snLs]
    simp only at hu ⊢
    rw [e2] at hu ⊢
    exact letF_nice _ (LCells.ok' hu)
  · intro i p q hp hq
    have hi := (List.getElem?_eq_some_iff.1 hq).1
    have ep : p = parF (l.drop i) (1001 + (i : Int)) := by
      obtain ⟨h1, h2⟩ := List.getElem?_eq_some_iff.1 hp
      rw [← h2]
      simp [snF, snPs]
    have eq : q = parF (l.drop (i + 1)) (1001 + ((i + 1 : Nat) : Int)) := by
      obtain ⟨h1, h2⟩ := List.getElem?_eq_some_iff.1 hq
      rw [← h2]
      simp [snF, snPs]
    rw [ep, eq]
    unfold parF
    rw [(parU_len _ _ _).2, (parU_len _ _ _).2]
    omega
  · intro i x y hx hy
    have ex : x = ⟨1, 2 + (i : Int), snLs l (min l.length 3)⟩ := by
      obtain ⟨h1, h2⟩ := List.getElem?_eq_some_iff.1 hx
      rw [← h2]
      simp [snF, snWs]
    have ey : y = ⟨1, 2 + ((i + 1 : Nat) : Int), snLs l (min l.length 3)⟩ := by
      obtain ⟨h1, h2⟩ := List.getElem?_eq_some_iff.1 hy
      rw [← h2]
      simp [snF, snWs]
    rw [ex, ey]
    exact ⟨rfl, by simp only; omega⟩
theorem snapE_max (s : Snp) (h : NiceSn s) : (snapE 41 s).length ≤ 20000010 := by
  have hp := h.np
  have hw := h.nw
  have := flat_bound (headE s) (partsE 41 s) (by simp [headE, numE_len]) (by simp [partsE]; omega) (partsE_len s h) (partsE 41 s).length
  rw [List.take_of_length_le (Nat.le_refl _)] at this
  rw [snapE_eq]
  omega
end Go.Proofs.Ytgcpclbkjplipaa
