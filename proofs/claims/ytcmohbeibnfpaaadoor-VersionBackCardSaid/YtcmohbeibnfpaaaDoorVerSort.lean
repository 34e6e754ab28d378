/- slices.SortFunc at ranges of versions, by their beginnings: a permutation, sorted. -/
import Derived.Test.YtcmohbeibnfpaaaDoorVerShelf
import Derived.Test.YtcmohbeibnfpaaaDoorVerNot
import Derived.Shelf.SlSortCmp.NoneTotal
set_option linter.unusedVariables false
namespace Go.Ver
open Go.RowKit Go.Mem
abbrev Bt := Fin 10001 × Fin 10001
def encB (x : Bt) : List Value := [.int .i64 (x.1.val : Nat), .int .i64 (x.2.val : Nat)]
def ofB (x : Bt) : Rg := (x.1.val, x.2.val)
def cfB (x y : Bt) : Int := (x.1.val : Int) - (y.1.val : Int)
theorem ltB (x y : Bt) : Proofs.ltOf cfB x y = decide (x.1.val < y.1.val) := by
  unfold Proofs.ltOf cfB
  apply decide_eq_decide.2
  omega
theorem swoB : Sort.SWO (Proofs.ltOf cfB) where
  irrefl x := by rw [ltB]; simp
  trans x y z h1 h2 := by rw [ltB] at *; simp at *; omega
  ntrans x y z h1 h2 := by rw [ltB] at *; simp at *; omega
theorem toB : ∀ (l : List Rg), Le l → ∃ d : List Bt, d.map ofB = l
  | [], _ => ⟨[], rfl⟩
  | r :: l, h => by
    obtain ⟨d, hd⟩ := toB l fun s hs => h s (by simp [hs])
    obtain ⟨h1, h2⟩ := h r (by simp)
    exact ⟨(⟨r.1, by omega⟩, ⟨r.2, by omega⟩) :: d, by simp [hd, ofB]⟩
theorem encB_flat (d : List Bt) : (d.map encB).flatten = rgs (d.map ofB) := by
  simp only [rgs, List.map_map]
  rfl
end Go.Ver
namespace Go.Proofs.YtcmohbeibnfpaaaDoor
open Go.RowKit Go.Mem Go.Ver Go.Shelf Go.Sort Go.Lib
theorem cmp_any (x y : Bt) (W : World) : Calls Tryd.prog 24 #[.agg #[.int .i64 (x.1.val : Nat), .int .i64 (x.2.val : Nat)], .agg #[.int .i64 (y.1.val : Nat), .int .i64 (y.2.val : Nat)]] W fun e w' => e = .returned (.int .i64 (cfB x y)) ∧ ∃ q os', w' = grow (W.drewN q) os' := by
  unfold cfB
  obtain ⟨⟨x0, hx0⟩, ⟨x1, hx1⟩⟩ := x
  obtain ⟨⟨y0, hy0⟩, ⟨y1, hy1⟩⟩ := y
  simp only
  have e1 : IntKind.i64.wrap ((x0 : Int) - (y0 : Int)) = (x0 : Int) - (y0 : Int) := IntWalk.i64_in _ (by omega)
  go_enter Tryd.func24, Tryd.ntmps24
  go_wp2
  go_ret
  exact ⟨rfl, 0, _, by rw [alloc_eq_grow, alloc_eq_grow, grow_grow]; rfl⟩
theorem flat_get (d : Array Bt) (t : Nat) (h : t < d.size * 2) : (rgs (d.toList.map ofB))[t]? = some ((flatK encB 2 d)[t]!) := by
  rw [get_flatK _ _ _ t h]
  have hk : t / 2 < (d.toList.map ofB).length := by simp; omega
  have h1 := rgs_at (d.toList.map ofB) (t / 2) (t % 2) hk (Nat.mod_lt _ (by omega))
  rw [show t / 2 * 2 + t % 2 = t by omega] at h1
  rw [h1, getElem!_pos d (t / 2) (by simpa using hk)]
  simp only [List.getElem_map, Array.getElem_toList]
  have h2 : t % 2 = 0 ∨ t % 2 = 1 := by omega
  rcases h2 with h2 | h2 <;> rw [h2] <;> rfl
theorem grown_sorted {w : World} {g n off : Nat} {os : Array Obj} (d : Array Bt) : w.grownBy (sortWorldK encB 2 w g off n d os) (some g) := by
  unfold sortWorldK putRowK
  refine ⟨rfl, rfl, rfl, by simp, fun k hk hne => ?_⟩
  rw [heap_grow_old _ _ (by simpa using hk)]
  have : g ≠ k := fun e => hne (by rw [e])
  simp [putRow, mapBlock, Sort.ahead, Array.getElem?_modify, this]
set_option maxRecDepth 100000 in
theorem sort_any (w : World) (base : Nat) (A : Option Addr) (n c : Nat) (l : List Rg) (hown : w.ownsRow base 34 2 (.slice A n c) n (rgs l)) (hn : n = l.length) (hl : Le l) (hn1 : n ≤ 1099511627776) :
    Calls Tryd.prog 23 #[.slice A n c, .func (.func 24) #[] #[]] w fun e w' => e = .returned (.tuple #[]) ∧ ∃ l', l'.Perm l ∧ l'.Pairwise (fun r s => r.1 ≤ s.1) ∧ Reads w' Any 2 A n (rgs l') ∧ w.grownBy w' (Value.slice A n c).ownBlock := by
  have eg : ∀ args w, (callFunc 24 args).run Tryd.prog w = .ok (.enter 24 args) w := enters_of Tryd.func24 (by kernel_rfl) rfl
  obtain ⟨d0, rfl⟩ := toB l hl
  obtain ⟨d, rfl⟩ : ∃ d : Array Bt, d.toList = d0 := ⟨d0.toArray, rfl⟩
  have hd : n = d.size := by simpa using hn
  subst hd
  rcases hown.2 with ⟨e1, e2⟩ | ⟨g, cap, cur, e1, hb, hg, hnc, hcm, hcs, htake⟩
  · injection e1 with e1 _ e3
    subst e1 e3
    have hd0 : d = #[] := Array.eq_empty_of_size_eq_zero e2
    subst hd0
    have hcon := AnyF.slices_SortFunc_none Tryd.laysSf6 none 0 (.func (.func 24) #[] #[]) w
    change Calls Tryd.prog 23 _ _ _ at hcon
    refine hcon.mono ?_
    rintro e w' ⟨rfl, rfl⟩
    exact ⟨rfl, [], List.Perm.refl _, List.Pairwise.nil, Reads.empty, World.grownBy.refl _ _⟩
  · injection e1 with e1 _ e3
    subst e1 e3
    have hH : HoldsK encB 2 w g 0 d := fun j hj => by
      rw [size_flatK] at hj
      exact ⟨by rw [Nat.zero_add, hown.cellAt j hj]; exact flat_get d j hj, by rw [Nat.zero_add]; exact hown.frozenAt j⟩
    have hg' := (Array.getElem?_eq_some_iff.1 hg).1
    have hcon := AnyQ.slices_SortFunc Tryd.laysSf6 2 Tryd.isAgg34 Tryd.sizeOf34 encB (fun _ => rfl) (fun x v hv => by simp [encB] at hv; rcases hv with rfl | rfl <;> rfl) cfB swoB 24 #[] g 0 c d w eg (fun _ _ _ _ x y => cmp_any x y _) hH hg' (by omega)
    change Calls Tryd.prog 23 _ _ _ at hcon
    refine hcon.mono ?_
    rintro e w' ⟨rfl, d', k, os, ⟨hp1, _, hp2⟩, hs, rfl⟩
    have e1 : d'.extract 0 d.size = d' := by rw [← hp1]; exact Array.extract_size
    rw [e1, Array.extract_size] at hp2
    refine ⟨rfl, d'.toList.map ofB, hp2.map _, ?_, ?_, grown_sorted d'⟩
    · rw [List.pairwise_map, List.pairwise_iff_getElem]
      intro i j hi hj hij
      have hi' : i < d'.size := by simpa using hi
      have hj' : j < d'.size := by simpa using hj
      have := hs i j (Nat.zero_le _) hij (by omega)
      rw [getElem!_pos d' j hj', getElem!_pos d' i hi', ltB] at this
      simpa [ofB] using this
    · refine ⟨by rw [rgs_len]; simp [hp1], fun h0 => ⟨g, 0, rfl, trivial, fun j u hu => ?_⟩⟩
      have hj : j < d'.size * 2 := by
        rcases Nat.lt_or_ge j (d'.size * 2) with h | h
        · exact h
        · rw [List.getElem?_eq_none (by rw [rgs_len]; simpa using h)] at hu; cases hu
      rw [flat_get d' j hj] at hu
      injection hu with hu
      subst hu
      have h3 := holdsK_putRowK encB 2 (Sort.ahead w k) g 0 d d' hH hp1
      have h4 := holdsK_grow encB 2 _ os g 0 d' (by simpa [putRowK] using hg') h3
      exact (h4 j (by rw [size_flatK]; exact hj)).1
end Go.Proofs.YtcmohbeibnfpaaaDoor
