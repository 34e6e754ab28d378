/- slices.Delete at values: one value is taken out of a part of a row. -/
import Derived.Test.YtlpkgheggbcidaaDoorRpSpawn
set_option linter.unusedVariables false
namespace Go.Rp
open Go.Mem Go.RowKit
theorem del_cells {cur zs : List Value} {l : List Vl} {off m i : Nat} (h : (cur.drop off).take ((m + 1) * 4) = cat vlC l) (hl : l.length = m + 1) (hi : i ≤ m) (hc : off + (m + 1) * 4 ≤ cur.length) (hz : zs.length = 4) :
    ((sets (sets cur (off + i * 4) (cat vlC (l.drop (i + 1)))) (off + m * 4) zs).drop off).take (m * 4) = cat vlC (l.eraseIdx i) := by
  have hnl : (cat vlC (l.drop (i + 1))).length = (m - i) * 4 := by rw [cat_len vlC_len, List.length_drop, hl]; congr 1; omega
  have hcl : (cat vlC l).length = (m + 1) * 4 := by rw [cat_len vlC_len, hl]
  have hat : ∀ j, j < (m + 1) * 4 → cur[off + j]? = (cat vlC l)[j]? := fun j hj => by
    rw [← h, List.getElem?_take, if_pos hj, List.getElem?_drop]
  have he : cat vlC (l.eraseIdx i) = (cat vlC l).take (i * 4) ++ (cat vlC l).drop ((i + 1) * 4) := by
    rw [List.eraseIdx_eq_take_drop_succ, cat_app, cat_take vlC_len, cat_drop vlC_len]
  rw [he]
  apply List.ext_getElem?
  intro j
  rw [List.getElem?_take]
  by_cases hj : j < m * 4
  · rw [if_pos hj, List.getElem?_drop, sets_at _ _ _ (by rw [sets_len, hz]; omega), if_neg (by omega), sets_at _ _ _ (by rw [hnl]; omega), hnl]
    by_cases h1 : j < i * 4
    · rw [if_neg (by omega), hat j (by omega), List.getElem?_append_left (by rw [List.length_take, hcl]; omega), List.getElem?_take, if_pos h1]
    · rw [if_pos (by omega), List.getElem?_append_right (by rw [List.length_take, hcl]; omega), List.length_take, hcl, ← cat_drop vlC_len, List.getElem?_drop, List.getElem?_drop]
      congr 1
      omega
  · rw [if_neg hj, List.getElem?_eq_none]
    rw [List.length_append, List.length_take, List.length_drop, hcl]
    omega
end Go.Rp
namespace Go.Proofs.YtlpkgheggbcidaaDoor
open Go.RowKit Go.Mem Go.Rp Go.Maps
theorem zero_vl : ∀ w : World, (zeroValue 56).run Tryd.prog w = .ok (.agg #[.int .i64 0, .int .i64 0, .string ⟨#[]⟩, .slice none 0 0]) w := fun _ => by kernel_rfl
theorem elem_vl : Tryd.prog.elem 54 = 56 := by simp [Program.elem, Tryd.underlying54]
theorem clear_vl (w : World) (b o c : Nat) (hc : ∀ j, j < 4 → (w.cell? ⟨b, o + j, none⟩).isSome = true) (hf : ∀ j, j < 4 → w.frozen? ⟨b, o + j, none⟩ = false) (ty : TypeId) :
    (Builtin.clear_ #[54] ty #[.slice (some ⟨b, o, none⟩) 1 c]).run Tryd.prog w = .ok (.tuple #[]) (w.setCells b o [.int .i64 0, .int .i64 0, .string ⟨#[]⟩, .slice none 0 0]) := by
  have hst := run_storeCells_cells (P := Tryd.prog) b o [.int .i64 0, .int .i64 0, .string ⟨#[]⟩, .slice none 0 0] 0 w (by simpa using hc) (by simpa using hf) (by intro v hv; simp at hv; rcases hv with rfl | rfl | rfl | rfl <;> rfl)
  simp only [Nat.add_zero] at hst
  have hz : (Builtin.zeroCells (Value.agg #[.int .i64 0, .int .i64 0, .string ⟨#[]⟩, .slice none 0 0]).cells 1).toList = [.int .i64 0, .int .i64 0, .string ⟨#[]⟩, .slice none 0 0] := by kernel_rfl
  simp [Builtin.clear_, run_underlying Tryd.underlying54, hz, hst]
def DelPost (w : World) (v' : Value) (g m : Nat) (l : List Vl) (e : Ending) (w' : World) : Prop := e = .returned v' ∧ Seg w' 56 4 v' m (cat vlC l) ∧ w.grownBy w' (some g)
set_option maxRecDepth 100000 in
set_option maxHeartbeats 4000000 in
theorem delete_any (w : World) (g off c m i : Nat) (l : List Vl) (hl : l.length = m + 1) (h : Seg w 56 4 (.slice (some ⟨g, off, none⟩) (m + 1) c) (m + 1) (cat vlC l)) (hi : i ≤ m) (hm : m ≤ 1000000) :
    Calls Tryd.prog 42 #[(.slice (some ⟨g, off, none⟩) (m + 1) c), .int .i64 (i : Nat), .int .i64 ((i : Int) + 1)] w (DelPost w (.slice (some ⟨g, off, none⟩) m c) g m (l.eraseIdx i)) := by
  rcases id h.2 with ⟨h0, _⟩ | ⟨g', off', c', cur, e1, hb, hnc, hcm, hcs, htake⟩
  · cases h0
  injection e1 with e1 _ e3
  injection e1 with e1
  injection e1 with e1 e2
  subst e1 e2 e3
  obtain ⟨i0, hi0, hz0, hs0, hb0⟩ := info_parts info_vl
  have hk : m + 1 ≤ 9223372036854775807 := by omega
  have hsz : i + (m - i) = m := by omega
  have f1 : ∀ W : World, (Instr.slice 54 (.slice (some ⟨g, off, none⟩) (m + 1) c) none (some (.int .i64 (i : Nat))) none).run Tryd.prog W = .ok (.slice (some ⟨g, off, none⟩) i c) W := fun W => by
    rw [run_slice_h W 54 (some ⟨g, off, none⟩) (m + 1) c (by rw [elem_vl]; exact Tryd.underlying54) .i64 (i : Nat) (by omega) (by omega)]
    simp [elem_vl, sizeOf, typeInfo, hi0, sliced, Addr.add_lit]
  obtain ⟨A2, hA2⟩ : ∃ A2, A2 = if c = i + 1 then (⟨g, off, none⟩ : Addr) else ⟨g, off + (i + 1) * 4, none⟩ := ⟨_, rfl⟩
  have f2 : ∀ W : World, (Instr.slice 54 (.slice (some ⟨g, off, none⟩) (m + 1) c) (some (.int .i64 ((i : Int) + 1))) none none).run Tryd.prog W = .ok (.slice (some A2) (m - i) (c - (i + 1))) W := fun W => by
    rw [run_slice_l W 54 (some ⟨g, off, none⟩) (m + 1) c (by rw [elem_vl]; exact Tryd.underlying54) .i64 ((i : Int) + 1) (by omega) (by omega), hA2]
    have e1 : ((i : Int) + 1).toNat = i + 1 := by omega
    simp [e1, elem_vl, sizeOf, typeInfo, hi0, hs0, sliced, Addr.add_lit]
    split <;> rfl
  have f3 : ∀ W : World, ∃ v, (Instr.slice 54 (.slice (some ⟨g, off, none⟩) (m + 1) c) (some (.int .i64 (i : Nat))) (some (.int .i64 ((i : Int) + 1))) (some (.int .i64 ((m + 1 : Nat) : Int)))).run Tryd.prog W = .ok v W := fun W => by
    rw [run_slice_lhm W 54 (some ⟨g, off, none⟩) (m + 1) c (by rw [elem_vl]; exact Tryd.underlying54) .i64 .i64 .i64 (i : Nat) ((i : Int) + 1) ((m + 1 : Nat) : Int) (by omega) (by omega) (by omega) (by omega)]
    simp [elem_vl, sizeOf, typeInfo, hi0]
  have f4 : ∀ W : World, (Instr.slice 54 (.slice (some ⟨g, off, none⟩) m c) (some (.int .i64 (m : Nat))) (some (.int .i64 ((m + 1 : Nat) : Int))) none).run Tryd.prog W = .ok (.slice (some ⟨g, off + m * 4, none⟩) 1 (c - m)) W := fun W => by
    rw [run_slice_lh W 54 (some ⟨g, off, none⟩) m c (by rw [elem_vl]; exact Tryd.underlying54) .i64 .i64 (m : Nat) ((m + 1 : Nat) : Int) (by omega) (by omega) (by omega)]
    have e1 : c ≠ m := by omega
    simp [elem_vl, sizeOf, typeInfo, hi0, hs0, sliced, Addr.add_lit, e1]
  have hnl : (cat vlC (l.drop (i + 1))).length = (m - i) * 4 := by rw [cat_len vlC_len, List.length_drop, hl]; congr 1; omega
  have hcl : (cat vlC l).length = (m + 1) * 4 := by rw [cat_len vlC_len, hl]
  obtain ⟨wd, hwd⟩ : ∃ wd, wd = w.drew := ⟨_, rfl⟩
  have hd : Seg wd 56 4 (.slice (some ⟨g, off, none⟩) (m + 1) c) (m + 1) (cat vlC l) := h.keep fun b _ => by rw [hwd]; rfl
  have hbd : Blk wd g 56 cur := by rw [hwd]; exact hb.drew
  have hsrc : ∀ j u, (cat vlC (l.drop (i + 1)))[j]? = some u → wd.cell? (A2.add j) = some u := fun j u hu => by
    have hjl : j < (m - i) * 4 := by
      rw [← hnl]
      rcases Nat.lt_or_ge j (cat vlC (l.drop (i + 1))).length with h0 | h0
      · exact h0
      · rw [List.getElem?_eq_none h0] at hu; cases hu
    rw [← cat_drop vlC_len, List.getElem?_drop] at hu
    have hA3 : A2 = ⟨g, off + (i + 1) * 4, none⟩ := by rw [hA2, if_neg (by omega)]
    rw [hA3, Addr.add_lit, Nat.add_assoc]
    exact hd.cells _ u hu
  have hap := run_append_room_cells (P := Tryd.prog) wd 54 54 56 i0 Tryd.underlying54 hi0 g off i c A2 (m - i) (c - (i + 1)) (cat vlC (l.drop (i + 1))) (by rw [hs0]; exact hnl) hsrc (cat_ones vlC_one _) (by omega)
    (fun j hj => by rw [hs0, hbd.cell, List.getElem?_eq_getElem (by omega)]; rfl) (fun j _ => hbd.frozen _)
  rw [hs0, hsz] at hap
  obtain ⟨w2, hw2⟩ : ∃ w2, w2 = wd.setCells g (off + i * 4) (cat vlC (l.drop (i + 1))) := ⟨_, rfl⟩
  rw [← hw2] at hap
  have hb2 : Blk w2 g 56 (sets cur (off + i * 4) (cat vlC (l.drop (i + 1)))) := by rw [hw2]; exact hbd.puts _ _
  have hg2 : w.grownBy w2 (some g) := by rw [hw2, hwd]; exact grownBy_trans (grownBy_drew (World.grownBy.refl w _)) (grownBy_setCells g _ _ _)
  obtain ⟨w3, hw3⟩ : ∃ w3, w3 = w2.setCells g (off + m * 4) [.int .i64 0, .int .i64 0, .string ⟨#[]⟩, .slice none 0 0] := ⟨_, rfl⟩
  have hcr := fun ty => clear_vl w2 g (off + m * 4) (c - m) (fun j hj => by rw [hb2.cell, List.getElem?_eq_getElem (by rw [sets_len]; omega)]; rfl) (fun j _ => hb2.frozen _) ty
  rw [← hw3] at hcr
  have hb3 := hb2.puts [.int .i64 0, .int .i64 0, .string ⟨#[]⟩, .slice none 0 0] (off + m * 4)
  rw [← hw3] at hb3
  have hg3 : w.grownBy w3 (some g) := by rw [hw3]; exact grownBy_trans hg2 (grownBy_setCells g _ _ _)
  have FIN : DelPost w (.slice (some ⟨g, off, none⟩) m c) g m (l.eraseIdx i) (.returned (.slice (some ⟨g, off, none⟩) m c)) w3 :=
    ⟨rfl, ⟨by rw [cat_len vlC_len, List.length_eraseIdx_of_lt (by omega), hl]; rfl, .inr ⟨g, off, c, _, rfl, hb3, by omega, hcm, by rw [sets_len, sets_len]; exact hcs, del_cells htake hl hi (by omega) rfl⟩⟩, hg3⟩
  have HF := Lib.hid FIN
  obtain ⟨v3, f3⟩ := f3 w
  have ne : ((i : Int) == (i : Int) + 1) = false := by simp; omega
  clear FIN hb3 hg3 hb2 hg2 hw2 hw3 hsrc hnl hcl htake hb h hl hA2 hd hbd
  go_enter Tryd.func42, Tryd.ntmps42
  go_wp2_with (fail)
  refine wp_region_g (S := fun Y => Y = wd) (m := 6) (by kernel_rfl) ?_
  rw [← hwd]
  have hS : wd = wd := rfl
  repeat (first | (refine wpAnyG_take (i := 0) (v := (.slice (some ⟨g, off, none⟩) (m + 1) c)) rfl ?_ ?_ ?_ (fun _ _ _ h => h) (Or.inl ⟨by rfl, ?_⟩) hS ?_; (· decide +kernel); (· decide +kernel); (· decide +kernel); (· (intro w' hS'; subst hS'; go_simp))) | (refine wpAnyG_take (i := 1) (v := .int .i64 (i : Nat)) rfl ?_ ?_ ?_ (fun _ _ _ h => h) (Or.inl ⟨by rfl, ?_⟩) hS ?_; (· decide +kernel); (· decide +kernel); (· decide +kernel); (· (intro w' hS'; subst hS'; go_simp))) | (refine wpAnyG_take (i := 2) (v := .slice (some ⟨g, off, none⟩) i c) rfl ?_ ?_ ?_ (fun _ _ _ h => h) (Or.inl ⟨by rfl, ?_⟩) hS ?_; (· decide +kernel); (· decide +kernel); (· decide +kernel); (· (intro w' hS'; subst hS'; go_simp))) | (refine wpAnyG_take (i := 3) (v := (.slice (some ⟨g, off, none⟩) (m + 1) c)) rfl ?_ ?_ ?_ (fun _ _ _ h => h) (Or.inl ⟨by rfl, ?_⟩) hS ?_; (· decide +kernel); (· decide +kernel); (· decide +kernel); (· (intro w' hS'; subst hS'; go_simp))) | (refine wpAnyG_take (i := 4) (v := .int .i64 ((i : Int) + 1)) rfl ?_ ?_ ?_ (fun _ _ _ h => h) (Or.inl ⟨by rfl, ?_⟩) hS ?_; (· decide +kernel); (· decide +kernel); (· decide +kernel); (· (intro w' hS'; subst hS'; go_simp))) | (refine wpAnyG_take (i := 5) (v := .slice (some A2) (m - i) (c - (i + 1))) rfl ?_ ?_ ?_ (fun _ _ _ h => h) (Or.inl ⟨by rfl, ?_⟩) hS ?_; (· decide +kernel); (· decide +kernel); (· decide +kernel); (· (intro w' hS'; subst hS'; go_simp))))
  clear hS f1 f2 f3
  refine wpAnyG_ready (rs := [6]) (by decide +kernel) (by simp) ?_
  refine AllReadyG.cons rfl (fun K hK => ?_) AllReadyG.nil
  refine step_app_run rfl (.tmp 22) (.tmp 25) rfl rfl rfl hap ?_
  refine hK _ _ (fun h => absurd h (by decide)) ?_
  clear hK K hap
  refine wpAnyG_ready (rs := [7]) (by decide +kernel) (by simp) ?_
  refine AllReadyG.cons rfl (fun K hK => ?_) AllReadyG.nil
  go_simp
  refine hK _ _ (fun h => absurd h (by decide)) ?_
  clear hK K
  refine wpAnyG_done (by decide +kernel) ?_ _
  go_wp2_with (fail)
  go_ret
  exact HF.out
end Go.Proofs.YtlpkgheggbcidaaDoor

