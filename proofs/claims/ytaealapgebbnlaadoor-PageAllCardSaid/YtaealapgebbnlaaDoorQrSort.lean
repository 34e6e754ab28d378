/- slices.SortStableFunc at the module's entries. -/
import Derived.Test.YtaealapgebbnlaaDoorQrCmp
import Derived.Test.YtaealapgebbnlaaDoorQrIns
set_option linter.unusedVariables false
namespace Go.Md
open Go.RowKit Go.Mem
theorem ensC_len (l : List En) : (ensC l).length = l.length * 4 := by
  induction l with
  | nil => rfl
  | cons x r ih =>
    have : ensC (x :: r) = encE x ++ ensC r := rfl
    rw [this, List.length_append, ih]
    simp [encE]
    omega
theorem ensC_at (l : List En) (k j : Nat) (hk : k < l.length) (hj : j < 4) : (ensC l)[k * 4 + j]? = (encE l[k])[j]? :=
  flatten_at (size := 4) (vss := l.map encE) (fun c hc => by obtain ⟨d, _, rfl⟩ := List.mem_map.1 hc; rfl) (k := k) (c := encE l[k]) (by rw [List.getElem?_map, List.getElem?_eq_getElem hk]; rfl) j hj
theorem sorted_raw : Sort.insertionSort (Proofs.ltOf cfE) rawE.toArray 0 11 = allE.toArray := by kernel_rfl
end Go.Md
namespace Go.Proofs.YtaealapgebbnlaaDoor
open Go.RowKit Go.Mem Go.Md Go.Shelf Go.Sort Go.Lib
theorem flat_get (d : Array En) (t : Nat) (h : t < d.size * 4) : (ensC d.toList)[t]? = some ((flatK encE 4 d)[t]!) := by
  rw [get_flatK _ _ _ t h]
  have hk : t / 4 < d.toList.length := by simp; omega
  have h1 := ensC_at d.toList (t / 4) (t % 4) hk (Nat.mod_lt _ (by omega))
  rw [show t / 4 * 4 + t % 4 = t by omega] at h1
  rw [h1, getElem!_pos d (t / 4) (by simpa using hk)]
  simp only [Array.getElem_toList]
  have h2 : t % 4 = 0 ∨ t % 4 = 1 ∨ t % 4 = 2 ∨ t % 4 = 3 := by omega
  rcases h2 with h2 | h2 | h2 | h2 <;> rw [h2] <;> rfl
theorem blk_sorted {w : World} {g n : Nat} {os : Array Obj} {cur : Array Value} (d : Array En) (hb : w.heap[g]? = some (.cells cur 48 (0, 0))) : Blk (sortWorldK encE 4 w g 0 n d os) g 48 (putCells id 0 (flatK encE 4 d) cur).toList := by
  have hg : g < w.heap.size := (Array.getElem?_eq_some_iff.1 hb).1
  unfold Blk sortWorldK putRowK
  rw [heap_grow_old _ _ (by simpa using hg)]
  simp [putRow, mapBlock, Sort.ahead, Array.getElem?_modify, hb, onCells]
theorem grown_sorted {w : World} {g n off : Nat} {os : Array Obj} (d : Array En) : w.grownBy (sortWorldK encE 4 w g off n d os) (some g) := by
  unfold sortWorldK putRowK
  refine ⟨rfl, rfl, rfl, by simp, fun k hk hne => ?_⟩
  rw [heap_grow_old _ _ (by simpa using hk)]
  have : g ≠ k := fun e => hne (by rw [e])
  simp [putRow, mapBlock, Sort.ahead, Array.getElem?_modify, this]
set_option maxRecDepth 100000 in
theorem stable_any (w : World) (g c : Nat) (R : World → Prop) (h : Calls Tryd.prog 56 #[.slice (some ⟨g, 0, none⟩) 11 c, .int .i64 0, .int .i64 11, .func (.func 25) #[] #[]] w fun e w' => e = .returned (.tuple #[]) ∧ R w') :
    Calls Tryd.prog 37 #[.slice (some ⟨g, 0, none⟩) 11 c, .int .i64 11, .func (.func 25) #[] #[]] w fun e w' => e = .returned (.tuple #[]) ∧ R w' := by
  have H := Lib.hid h
  clear h
  go_enter Tryd.func37, Tryd.ntmps37
  go_wp2_with (fail)
  refine wp_loop_rounds 1 ?_
  rw [rounds_succ]
  go_wp2_with (fail)
  refine H.out.mono ?_
  rintro e w' ⟨rfl, hR⟩
  have HR := Lib.hid hR
  clear hR
  go_wp2_with (fail)
  refine wp_loop_rounds 1 ?_
  rw [rounds_succ]
  go_wp2_with (fail)
  go_end0
  exact ⟨rfl, HR.out⟩
set_option maxRecDepth 100000 in
set_option maxHeartbeats 1000000 in
theorem sort_any (w : World) (base : Nat) (A : Option Addr) (c : Nat) (hown : w.ownsRow base 48 4 (.slice A 11 c) 11 (ensC rawE)) :
    Calls Tryd.prog 24 #[.slice A 11 c, .func (.func 25) #[] #[]] w fun e w' => e = .returned (.tuple #[]) ∧ Reads w' (fun b => base ≤ b) 4 A 11 (ensC allE) ∧ w.grownBy w' (Value.slice A 11 c).ownBlock ∧ ∃ g cs, A = some ⟨g, 0, none⟩ ∧ base ≤ g ∧ Blk w' g 48 cs := by
  have eg : ∀ args w, (callFunc 25 args).run Tryd.prog w = .ok (.enter 25 args) w := enters_of Tryd.func25 (by kernel_rfl) rfl
  rcases hown.2 with ⟨e1, e2⟩ | ⟨g, cap, cur, e1, hb, hg, hnc, hcm, hcs, htake⟩
  · omega
  · injection e1 with e1 _ e3
    subst e1 e3
    have hd11 : rawE.toArray.size = 11 := rfl
    have hH : HoldsK encE 4 w g 0 rawE.toArray := fun j hj => by
      rw [size_flatK] at hj
      exact ⟨by rw [Nat.zero_add, hown.cellAt j hj]; exact flat_get rawE.toArray j hj, by rw [Nat.zero_add]; exact hown.frozenAt j⟩
    have hg' := (Array.getElem?_eq_some_iff.1 hg).1
    have hcon := AnyQ.insertionSortCmpFunc Tryd.insQr 4 Tryd.isAgg48 Tryd.sizeOf48 encE (fun _ => rfl) (fun x v hv => by simp [encE] at hv; rcases hv with rfl | rfl | rfl | rfl <;> rfl) cfE 25 #[] g 0 c 0 11 rawE.toArray w eg (fun _ _ _ _ x y => cmpE_any x y _) hH hg' (by omega) (by omega) (by omega)
    change Calls Tryd.prog 56 #[.slice (some ⟨g, 0, none⟩) 11 c, .int .i64 0, .int .i64 11, .func (.func 25) #[] #[]] w _ at hcon
    have HC := Lib.hid (hcon.mono (R' := fun e w' => e = .returned (.tuple #[]) ∧ Reads w' (fun b => base ≤ b) 4 (some ⟨g, 0, none⟩) 11 (ensC allE) ∧ w.grownBy w' (some g) ∧ ∃ g' cs, (some ⟨g, 0, none⟩ : Option Addr) = some ⟨g', 0, none⟩ ∧ base ≤ g' ∧ Blk w' g' 48 cs) fun e w' h => by
      obtain ⟨rfl, n, os, rfl⟩ := h
      rw [sorted_raw]
      have h3 := holdsK_putRowK encE 4 (Sort.ahead w n) g 0 rawE.toArray allE.toArray hH rfl
      have h4 := holdsK_grow encE 4 _ os g 0 allE.toArray (by simpa [putRowK] using hg') h3
      refine ⟨rfl, ⟨by rw [ensC_len]; rfl, fun h0 => ⟨g, 0, rfl, hb, fun j u hu => ?_⟩⟩, grown_sorted _, g, _, rfl, hb, blk_sorted _ hg⟩
      have hj : j < allE.toArray.size * 4 := by
        rcases Nat.lt_or_ge j (allE.toArray.size * 4) with h | h
        · exact h
        · rw [List.getElem?_eq_none (by rw [ensC_len]; exact h)] at hu; cases hu
      rw [flat_get allE.toArray j hj] at hu
      injection hu with hu
      subst hu
      exact (h4 j (by rw [size_flatK]; exact hj)).1)
    clear hcon hown hH hg hnc hcm hcs htake
    go_enter Tryd.func24, Tryd.ntmps24
    go_wp2_with (fail)
    refine (stable_any w g c _ HC.out).mono ?_
    rintro e w' ⟨rfl, h⟩
    go_wp2_with (fail)
    go_end0
    exact ⟨rfl, h⟩
end Go.Proofs.YtaealapgebbnlaaDoor
