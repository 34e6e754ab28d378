/- What replay's texts ask of the world: a table, a shape; kept when the world grows. Contracts of strconv, strings and slices.Equal as package replay calls them. -/
import Derived.Test.YtlpkgheggbcidaaDoorRaLaw
import Derived.Test.YtlpkgheggbcidaaDoorRaShelf
import Derived.Test.YtlpkgheggbcidaaDoorRpTwo
import Derived.Lib.ItoaMem
import Derived.Lib.AppendIntMem
import Derived.Lib.SmallJoins
import Derived.ChangeAgain
set_option linter.unusedVariables false
namespace Go.Proofs.YtlpkgheggbcidaaDoor
open Go.RowKit Go.Mem Go.Rp
structure Env (w : World) : Prop where
  tab : Lib.TabIs Tryd.prog w "internal/strconv.uint64pow10" .u64 Lib.pow10Tab
  sh : w.ShapedOpen Tryd.prog
theorem tab_keep {P : Program} {w w' : World} {name : String} {k : IntKind} {zs : List Int} (h : Lib.TabIs P w name k zs) (hb : Below w.heap.size w w') : Lib.TabIs P w' name k zs := by
  unfold Lib.TabIs World.var? at h ⊢
  cases e : P.globalNamed name with
  | none => rw [e] at h; simp at h
  | some g =>
    rw [e] at h
    simp only [Option.bind_some] at h ⊢
    cases e2 : w.heap[g]? with
    | none => rw [e2] at h; simp at h
    | some o =>
      have hg : g < w.heap.size := (Array.getElem?_eq_some_iff.1 e2).1
      rw [hb.block g hg]
      exact h
theorem Env.below {w w' : World} (h : Env w) (hb : Below w.heap.size w w') : Env w' :=
  ⟨tab_keep h.tab hb, h.sh.keptBut (may := fun _ => False) (hb.frame _) (fun _ h => h.elim)⟩
theorem bsz (s : Bs) : (ByteArray.mk s.toArray).size = s.length := by simp [ByteArray.size]
theorem itoa_any (x : Int) (h0 : 0 ≤ x) (h9 : x ≤ 40) (w : World) (h : Env w) : Calls Tryd.prog 19 #[.int .i64 x] w fun e w' => e = .returned (.string ⟨(Lib.decDigits x.toNat).toArray⟩) ∧ Below w.heap.size w w' := by
  obtain ⟨u, rfl⟩ := Int.eq_ofNat_of_zero_le h0
  refine (Tryd.strconv_Itoa (u : Int) (by omega) (by omega) w h.tab).mono ?_
  rintro e w' ⟨rfl, k, os, rfl⟩
  exact ⟨by rw [Lib.itoa_nonneg]; rfl, Lib.below_grow _ w (Nat.le_refl _) k os⟩
theorem atoi_any (x : Int) (h0 : 0 ≤ x) (h9 : x ≤ 40) (w : World) : Calls Tryd.prog 24 #[.string ⟨(Lib.decDigits x.toNat).toArray⟩] w fun e w' => e = .returned (.tuple #[.int .i64 x, .nilIface]) ∧ Below w.heap.size w w' := by
  obtain ⟨u, rfl⟩ := Int.eq_ofNat_of_zero_le h0
  have hl := Txt.digits_len (u := u) (k := 4) (by omega) (by omega)
  refine (Tryd.strconv_Atoi_ok ⟨(Lib.decDigits u).toArray⟩ (by simp [ByteArray.size]; omega) (u : Int) (Txt.atoi_digits u (by omega)) w).mono ?_
  rintro e w' ⟨rfl, rfl | ⟨t, rfl⟩⟩
  · exact ⟨rfl, Below.refl _ _⟩
  · exact ⟨rfl, Joins.below_bytesWorld _ _ _ _ (Nat.le_refl _)⟩
theorem indexByte_any (c : Ch) (h : Okc c) (w : World) : Calls Tryd.prog 22 #[.string ⟨#[103, 99, 108]⟩, .int .u8 (letterC c.k).toNat] w fun e w' => e = .returned (.int .i64 (c.k - 1)) ∧ w' = w := by
  refine (Tryd.strings_IndexByte ⟨#[103, 99, 108]⟩ ((letterC c.k).toNat : Int) w).mono ?_
  rintro e w' ⟨rfl, rfl⟩
  have e1 : ((letterC c.k).toNat : Int).toNat.toUInt8 = letterC c.k := by simp
  rw [e1]
  refine ⟨?_, rfl⟩
  show Ending.returned (.int .i64 (Lib.indexByte [103, 99, 108] (letterC c.k))) = _
  rw [idx_letter c h]
theorem below_drewNm (w : World) : ∀ n, Below w.heap.size w (w.drewN n)
  | 0 => Below.refl _ _
  | n + 1 => (below_drewNm w n).drew
theorem cut_any (c : Ch) (hr : Okc c) (w : World) (hv : Env w) :
    Calls Tryd.prog 23 #[.string ⟨(restC c).toArray⟩, .string ⟨#[45]⟩] w fun e w' => e = .returned (.tuple #[.string ⟨(Lib.decDigits c.a.toNat).toArray⟩, .string ⟨(if c.k = 2 then Lib.decDigits c.b.toNat else []).toArray⟩, .bool (decide (c.k = 2))]) ∧ Below w.heap.size w w' := by
  have hl := rest_len hr
  refine (Tryd.strings_Cut_shaped ⟨(restC c).toArray⟩ ⟨#[45]⟩ w hv.sh (by rw [bsz]; omega)).mono ?_
  rintro e w' ⟨rfl, n, rfl⟩
  have hc : Lib.cut (restC c) [45] = _ := cut_rest c
  refine ⟨?_, below_drewNm w n⟩
  show Ending.returned (.tuple #[.string ⟨(Lib.cut (restC c) [45]).1.toArray⟩, .string ⟨(Lib.cut (restC c) [45]).2.1.toArray⟩, .bool (Lib.cut (restC c) [45]).2.2]) = _
  rw [hc]
theorem split_bytes {r : Ch} {l : List Ch} : Lib.splitB ⟨#[32]⟩ 0 (Lib.countB ⟨(textC (r :: l)).toArray⟩ ⟨#[32]⟩) ⟨(textC (r :: l)).toArray⟩ = ((r :: l).map partC).map fun p => ⟨p.toArray⟩ := by
  have h := Lib.splitB_data ⟨#[32]⟩ 0 (Lib.countB ⟨(textC (r :: l)).toArray⟩ ⟨#[32]⟩) ⟨(textC (r :: l)).toArray⟩
  have e : Lib.splitK [32] 0 (Lib.count (textC (r :: l)) [32]) (textC (r :: l)) = (r :: l).map partC := (textC_split r l).2
  have e2 : (Lib.splitB ⟨#[32]⟩ 0 (Lib.countB ⟨(textC (r :: l)).toArray⟩ ⟨#[32]⟩) ⟨(textC (r :: l)).toArray⟩).map (fun x => x.data.toList) = (r :: l).map partC := h.trans e
  rw [← e2, List.map_map]
  symm
  exact List.map_id'' (fun _ => rfl) _
theorem cat_st (l : List Bs) : cat stC l = l.map bst := by
  induction l with
  | nil => rfl
  | cons a r ih => rw [cat_cons, ih]; rfl
theorem split_any (r : Ch) (l : List Ch) (w : World) (hv : Env w) (hl : (textC (r :: l)).length ≤ 100000) :
    Calls Tryd.prog 21 #[.string ⟨(textC (r :: l)).toArray⟩, .string ⟨#[32]⟩] w fun e w' => e = .returned (.slice (some ⟨w.heap.size, 0, none⟩) (r :: l).length (r :: l).length) ∧ w' = w.alloc (.cells (((r :: l).map partC).map bst).toArray 9) := by
  have hc : Lib.countB ⟨(textC (r :: l)).toArray⟩ ⟨#[32]⟩ + 1 = (r :: l).length := by
    have : Lib.count (textC (r :: l)) [32] = l.length := (textC_split r l).1
    rw [List.length_cons, ← this]
  refine (Tryd.strings_Split_shaped ⟨(textC (r :: l)).toArray⟩ ⟨#[32]⟩ w hv.sh (by rw [bsz]; omega) (by decide)).mono ?_
  rintro e w' ⟨rfl, rfl⟩
  rw [hc, split_bytes]
  refine ⟨rfl, ?_⟩
  congr 3
  rw [List.map_map]
  rfl
theorem join_any (w0 w : World) (A : Option Addr) (n c : Nat) (l : List Bs) (h : RowAt 9 1 stC w0 w (.slice A n c) l) (hn : n = l.length) (hl : (Lib.join l [32]).length ≤ 100000) (hn1 : n ≤ 1000) :
    Calls Tryd.prog 20 #[.slice A n c, .string ⟨#[32]⟩] w fun e w' => e = .returned (.string ⟨(Lib.join l [32]).toArray⟩) ∧ Below w.heap.size w w' := by
  have hs := h.1
  rw [← hn, cat_st] at hs
  obtain ⟨A2, c2, e2, h1, h2, hr⟩ := hs.reads
  injection e2 with e21 _ e23
  subst e21 e23
  by_cases h0 : n = 0
  · subst h0
    have : l = [] := List.eq_nil_of_length_eq_zero hn.symm
    subst this
    refine (Tryd.strings_Join_none A c ⟨#[32]⟩ w).mono ?_
    rintro e w' ⟨rfl, rfl⟩
    exact ⟨rfl, Below.refl _ _⟩
  · obtain ⟨b, off, rfl, _, hc⟩ := hr.2 (by omega)
    have hm : (l.map fun s => (⟨s.toArray⟩ : ByteArray)).length = n := by rw [List.length_map]; exact hn.symm
    have hlt : b < w.heap.size := by
      cases l with
      | nil => exact absurd hn (by simpa using h0)
      | cons x r => exact lt_of_cell (hc 0 _ rfl)
    have hd : (l.map fun s => (⟨s.toArray⟩ : ByteArray)).map (·.data.toList) = l := by
      rw [List.map_map]
      exact List.map_id'' (fun _ => rfl) l
    have hj := Tryd.strings_Join b off c (l.map fun s => ⟨s.toArray⟩) ⟨#[32]⟩ w (fun j x hx => by
        rw [List.getElem?_map, Option.map_eq_some_iff] at hx
        obtain ⟨s, hs, rfl⟩ := hx
        exact hc j _ (by rw [List.getElem?_map, hs]; rfl)) hlt (by omega) (by omega) (by rw [hd]; exact Nat.le_trans hl (by omega))
    rw [hd, hm] at hj
    exact hj
/-- slices.Equal at two rows that hold the same strings -/
theorem equal_st (A B : Option Addr) (n c d : Nat) (l : List Bs) (w : World) (hr : Reads w Any 1 A n (cat stC l)) (hs : Reads w Any 1 B n (cat stC l)) (hn : n ≤ 1099511627776) (hnl : n = l.length) :
    Calls Tryd.prog 12 #[.slice A n c, .slice B n d] w fun e w' => e = .returned (.bool true) ∧ Below w.heap.size w w' := by
  rw [cat_st] at hr hs
  by_cases h0 : n = 0
  · subst h0
    refine (Tryd.slices_Equal_string_empty A B c 0 d w (by omega)).mono ?_
    rintro e w' ⟨rfl, rfl⟩
    exact ⟨rfl, Below.refl _ _⟩
  · obtain ⟨b1, o1, rfl, _, q1⟩ := hr.2 (by omega)
    obtain ⟨b2, o2, rfl, _, q2⟩ := hs.2 (by omega)
    have hm : (l.map fun s => (⟨s.toArray⟩ : ByteArray)).length = n := by rw [List.length_map]; exact hnl.symm
    have hg : ∀ j, j < (l.map fun s => (⟨s.toArray⟩ : ByteArray)).length → (l.map bst)[j]? = some (.string ((l.map fun s => (⟨s.toArray⟩ : ByteArray)).getD j ByteArray.empty)) := fun j hj => by
      have hj2 : j < l.length := by simpa using hj
      simp [hj2, bst]
    refine (Tryd.slices_Equal_string b1 o1 n c b2 o2 n d (l.map fun s => ⟨s.toArray⟩) (l.map fun s => ⟨s.toArray⟩) w (by omega) (by omega) (by omega) (by omega) (fun j hj => q1 j _ (hg j hj)) (fun j hj => q2 j _ (hg j hj))).mono ?_
    rintro e w' ⟨rfl, q, rfl⟩
    exact ⟨by simp, below_drewNm w q⟩
end Go.Proofs.YtlpkgheggbcidaaDoor
