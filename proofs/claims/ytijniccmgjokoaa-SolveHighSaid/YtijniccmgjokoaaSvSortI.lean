/- slices.Sort and slices.Compact at ints, behind one another. -/
import Derived.Test.YtijniccmgjokoaaSvShelfI
import Derived.Test.YtijniccmgjokoaaSvHighLaw
import Derived.Test.YtijniccmgjokoaaNumD
set_option linter.unusedVariables false
namespace Go.Mem
open Go.RowKit Go.Shelf Go.Sort
/-- a slice of ints at the beginning of a row, nothing frozen -/
def IntsAt (w : World) (A : Option Addr) (n c : Nat) (l : List Int) : Prop := (A = none ∧ n = 0 ∧ c = 0 ∧ l = []) ∨ ∃ g, A = some ⟨g, 0, none⟩ ∧ n = l.length ∧ n ≤ c ∧ g < w.heap.size ∧ Holds (Value.int .i64) w g 0 l.toArray
def intLe : Int → Int → Bool := fun x y => decide (x ≤ y)
theorem IntsAt.of_own {w : World} {base : Nat} {e : TypeId} {A : Option Addr} {n c : Nat} {l : List Int} (h : w.ownsRow base e 1 (.slice A n c) n (nums l)) (hn : n = l.length) : IntsAt w A n c l := by
  rcases h.2 with ⟨e1, e2⟩ | ⟨g, cap, cur, e1, hb, hg, hnc, hcm, hcs, htake⟩
  · injection e1 with e1 _ e3
    exact .inl ⟨e1, e2, e3, List.eq_nil_of_length_eq_zero (by omega)⟩
  · injection e1 with e1 _ e3
    subst e1 e3
    refine .inr ⟨g, rfl, hn, hnc, (Array.getElem?_eq_some_iff.1 hg).1, fun j hj => ?_⟩
    have hj' : j < l.length := by simpa using hj
    refine ⟨?_, by rw [Nat.zero_add]; exact h.frozenAt j⟩
    rw [Nat.zero_add, h.cellAt j (by omega), nums_at l j hj', getElem!_pos l.toArray j hj]
    simp
theorem IntsAt.reads {w : World} {A : Option Addr} {n c : Nat} {l : List Int} (h : IntsAt w A n c l) : Reads w Any 1 A n (nums l) ∧ n = l.length := by
  rcases h with ⟨rfl, rfl, rfl, rfl⟩ | ⟨g, rfl, rfl, _, _, hH⟩
  · exact ⟨Reads.empty, rfl⟩
  · refine ⟨⟨by rw [nums_length]; omega, fun h0 => ⟨g, 0, rfl, trivial, fun j u hu => ?_⟩⟩, rfl⟩
    have hj : j < l.length := by
      rcases Nat.lt_or_ge j l.length with h | h
      · exact h
      · rw [List.getElem?_eq_none (by rw [nums_length]; exact h)] at hu; cases hu
    rw [nums_at l j hj] at hu
    injection hu with hu
    subst hu
    have h1 := (hH j (by simpa using hj)).1
    rw [getElem!_pos l.toArray j (by simpa using hj)] at h1
    simpa using h1
theorem grown_put {w : World} {g n off : Nat} {os : Array Obj} (d : Array Int) : w.grownBy (grow (putRow (Value.int .i64) (Sort.ahead w n) g off d) os) (some g) := by
  refine ⟨rfl, rfl, rfl, by simp, fun k hk hne => ?_⟩
  rw [heap_grow_old _ _ (by simpa using hk)]
  have : g ≠ k := fun e => hne (by rw [e])
  simp [putRow, mapBlock, Sort.ahead, Array.getElem?_modify, this]
end Go.Mem
namespace Go.Proofs.Ytijniccmgjokoaa
open Go.RowKit Go.Mem Go.Sv Go.Shelf Go.Sort
theorem sortI_any (w : World) (A : Option Addr) (n c : Nat) (l : List Int) (h : IntsAt w A n c l) (hn : n ≤ 1000) :
    Calls Try.prog 18 #[.slice A n c] w fun e w' => e = .returned (.tuple #[]) ∧ IntsAt w' A n c (l.mergeSort intLe) ∧ w.grownBy w' (Value.slice A n c).ownBlock := by
  rcases h with ⟨rfl, rfl, rfl, rfl⟩ | ⟨g, rfl, rfl, hc, hg, hH⟩
  · have hcon := AnyM.slices_Sort_int_none Try.sortI none 0 w
    change Calls Try.prog 18 _ _ _ at hcon
    refine hcon.mono ?_
    rintro e w' ⟨rfl, rfl⟩
    exact ⟨rfl, .inl ⟨rfl, rfl, rfl, by simp⟩, World.grownBy.refl _ _⟩
  · have hcon := AnyM.slices_Sort_int Try.sortI g 0 c l w hH hg (by omega)
    change Calls Try.prog 18 _ _ _ at hcon
    refine hcon.mono ?_
    rintro e w' ⟨rfl, k, os, rfl⟩
    have hl : (l.mergeSort intLe).length = l.length := (List.mergeSort_perm l intLe).length_eq
    have h1 := holds_putRow (Value.int .i64) (Sort.ahead w k) g 0 l.toArray (l.mergeSort intLe).toArray (holds_ahead _ _ _ _ _ _ hH) (by simp)
    have h2 := holds_grow (Value.int .i64) _ os g 0 _ (by simpa using hg) h1
    exact ⟨rfl, .inr ⟨g, rfl, hl.symm, hc, by simp; omega, h2⟩, grown_put _⟩
theorem compactI_le (l : List Int) : (Lib.compact l).length ≤ l.length := by
  unfold Lib.compact Lib.compactUpTo
  rw [List.length_map]
  have := List.length_filter_le (Lib.keeps l.toArray) (List.range l.length)
  rwa [List.length_range] at this
theorem compactI_any (w : World) (A : Option Addr) (n c : Nat) (l : List Int) (h : IntsAt w A n c l) (hn : n ≤ 1000) :
    Calls Try.prog 19 #[.slice A n c] w fun e w' => e = .returned (.slice A (Lib.compact l).length c) ∧ Reads w' Any 1 A (Lib.compact l).length (nums (Lib.compact l)) ∧ w.grownBy w' (Value.slice A n c).ownBlock := by
  rcases h with ⟨rfl, rfl, rfl, rfl⟩ | ⟨g, rfl, rfl, hc, hg, hH⟩
  · have hcon := Any.slices_Compact_int_empty Try.compactI none 0 w
    change Calls Try.prog 19 _ _ _ at hcon
    refine hcon.mono ?_
    rintro e w' ⟨rfl, rfl⟩
    exact ⟨rfl, Reads.empty, World.grownBy.refl _ _⟩
  · have hcon := Any.slices_Compact_int Try.compactI g 0 c l w hH (by omega) hc
    change Calls Try.prog 19 _ _ _ at hcon
    refine hcon.mono ?_
    rintro e w' ⟨rfl, k, rfl⟩
    have hle := compactI_le l
    have h1 := holds_putRow (Value.int .i64) (Sort.ahead w k) g 0 l.toArray (Lib.compact l ++ List.replicate (l.length - (Lib.compact l).length) 0).toArray (holds_ahead _ _ _ _ _ _ hH) (by simp; omega)
    refine ⟨rfl, ⟨by rw [nums_length]; omega, fun h0 => ⟨g, 0, rfl, trivial, fun j u hu => ?_⟩⟩, ?_⟩
    · have hj : j < (Lib.compact l).length := by
        rcases Nat.lt_or_ge j (Lib.compact l).length with h | h
        · exact h
        · rw [List.getElem?_eq_none (by rw [nums_length]; exact h)] at hu; cases hu
      rw [nums_at _ j hj] at hu
      injection hu with hu
      subst hu
      have hj2 : j < (Lib.compact l ++ List.replicate (l.length - (Lib.compact l).length) 0).toArray.size := by simp; omega
      have h3 := (h1 j hj2).1
      rw [getElem!_pos _ j hj2] at h3
      rw [h3]
      congr 2
      simp [List.getElem_append_left hj]
    · have := grown_put (w := w) (g := g) (n := k) (off := 0) (os := #[]) (Lib.compact l ++ List.replicate (l.length - (Lib.compact l).length) 0).toArray
      rwa [grow_empty] at this
/-- what is left of a sorted row rises strictly -/
theorem compact_sorted {l : List Int} (h : l.Pairwise (· ≤ ·)) : (Lib.compact l).Pairwise (· < ·) ∧ ∀ x ∈ Lib.compact l, x ∈ l := by
  unfold Lib.compact Lib.compactUpTo
  constructor
  · rw [List.pairwise_map]
    have hr : ((List.range l.length).filter (Lib.keeps l.toArray)).Pairwise (· < ·) := List.pairwise_lt_range.filter _
    refine hr.imp_of_mem fun {i j} hi hj hij => ?_
    rw [List.mem_filter, List.mem_range] at hi hj
    have hk := hj.2
    unfold Lib.keeps at hk
    rw [decide_eq_true_eq] at hk
    have hj0 : j ≠ 0 := by omega
    have hne := hk.resolve_left hj0
    have hg : ∀ k, (hk : k < l.length) → l.toArray[k]! = l[k] := fun k hk => by rw [getElem!_pos l.toArray k (by simpa using hk)]; simp
    rw [hg j hj.1, hg (j - 1) (by omega)] at hne
    rw [hg i hi.1, hg j hj.1]
    have h1 : l[j - 1] ≤ l[j] := List.pairwise_iff_getElem.1 h (j - 1) j (by omega) hj.1 (by omega)
    have h2 : l[i] ≤ l[j - 1] := by
      rcases Nat.lt_or_ge i (j - 1) with h3 | h3
      · exact List.pairwise_iff_getElem.1 h i (j - 1) (by omega) (by omega) h3
      · have : i = j - 1 := by omega
        subst this
        exact Int.le_refl _
    omega
  · intro x hx
    obtain ⟨j, hj, rfl⟩ := List.mem_map.1 hx
    rw [List.mem_filter, List.mem_range] at hj
    rw [getElem!_pos l.toArray j (by simpa using hj.1)]
    simp
end Go.Proofs.Ytijniccmgjokoaa
