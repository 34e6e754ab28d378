/- A block with one number is none of those in which types, datas or makes lie. -/
import Derived.Test.YtoddjdajjmcliaaShSpoil
set_option linter.unusedVariables false
namespace Go.Sh
open Go.RowKit Go.Mem
section
variable {w : World} {D : Nat → Prop} {ab : Nat} {ti : TypeId} {q : Int}
theorem reads_off {size n : Nat} {A : Option Addr} {xs : List Value} (h : Reads w D size A n xs) (hb : Blk w ab ti [.int .i64 q]) (hx : 0 < n → ∃ (j : Nat) (u : Value), xs[j]? = some u ∧ ∀ i, u ≠ .int .i64 i) : Reads w (fun b => D b ∧ b ≠ ab) size A n xs := by
  refine ⟨h.1, fun hn => ?_⟩
  obtain ⟨b, off, e, hD, hc⟩ := h.2 hn
  refine ⟨b, off, e, ⟨hD, ?_⟩, hc⟩
  rintro rfl
  obtain ⟨j, u, hj, hu⟩ := hx hn
  have h1 := hc j u hj
  rw [cell_of_row w b (off + j) _ ti (0, 0) hb] at h1
  rcases Nat.eq_zero_or_pos (off + j) with h0 | h0
  · rw [h0] at h1
    simp at h1
    exact hu q h1.symm
  · obtain ⟨m, hm⟩ : ∃ m, off + j = m + 1 := ⟨off + j - 1, by omega⟩
    rw [hm] at h1
    simp at h1
theorem first_at {β : Type} {size : Nat} {R : World → (Nat → Prop) → List Value → β → Prop} (hS : Stable size R) {vss : List (List Value)} {l : List β} (ha : All2 (R w D) vss l) (hn : 0 < l.length) {j : Nat} (hj : j < size) :
    ∃ cs, R w D cs l[0] ∧ vss.flatten[j]? = cs[j]? := by
  obtain ⟨cs, h1, h2⟩ := ha.at_ hn
  have := flatten_at (ha.lens hS) h1 j hj
  rw [Nat.zero_mul, Nat.zero_add] at this
  exact ⟨cs, h2, this⟩
theorem TCells.off (hb : Blk w ab ti [.int .i64 q]) : ∀ {d : Nat} {cs : List Value} {t : Ty}, TCells d w D cs t → TCells d w (fun b => D b ∧ b ≠ ab) cs t
  | 0, _, _, h => h
  | d + 1, cs, .mk k n ts, h => by
    obtain ⟨A, c, vss, e, h1, h2, h3, h4, h5, hr, ha⟩ := h
    refine ⟨A, c, vss, e, h1, h2, h3, h4, h5, reads_off hr hb (fun hn => ?_), ha.imp fun x y hxy => hxy.off hb⟩
    obtain ⟨cs, h6, h7⟩ := first_at (TCells.stable d) ha hn (j := 1) (by omega)
    obtain ⟨B, cb, rfl⟩ := h6.form
    exact ⟨1, _, h7, fun i e => by cases e⟩
variable {d : Nat} {A : Option Addr} {n c : Nat}
theorem TsAt.off {ts : List Ty} (hb : Blk w ab ti [.int .i64 q]) (h : TsAt d w D A n c ts) : TsAt d w (fun b => D b ∧ b ≠ ab) A n c ts := by
  obtain ⟨vss, h1, h2, h3, h4, hr, ha⟩ := h
  refine ⟨vss, h1, h2, h3, h4, reads_off hr hb (fun hn => ?_), ha.imp fun x y hxy => hxy.off hb⟩
  obtain ⟨cs, h6, h7⟩ := first_at (TCells.stable d) ha (by omega) (j := 1) (by omega)
  obtain ⟨B, cb, rfl⟩ := h6.form
  exact ⟨1, _, h7, fun i e => by cases e⟩
theorem TyAt.off {k : Nat} {nm : Nm} {m : Nat} {t : Ty} (hb : Blk w ab ti [.int .i64 q]) (h : TyAt d w D k nm A m c t) : TyAt d w (fun b => D b ∧ b ≠ ab) k nm A m c t := by
  obtain ⟨h1, h2, h3, h4, e, h5, h6⟩ := h
  exact ⟨h1, h2, h3, h4, e, h5, h6.off hb⟩
theorem MkCells.off {cs : List Value} {m : Mk} (hb : Blk w ab ti [.int .i64 q]) (h : MkCells d w D cs m) : MkCells d w (fun b => D b ∧ b ≠ ab) cs m := by
  obtain ⟨A, n, c, e, h1, h2⟩ := h
  exact ⟨A, n, c, e, h1, h2.off hb⟩
theorem MksAt.off {l : List Mk} (hb : Blk w ab ti [.int .i64 q]) (h : MksAt d w D A n c l) : MksAt d w (fun b => D b ∧ b ≠ ab) A n c l := by
  obtain ⟨vss, h1, h2, h3, h4, hr, ha⟩ := h
  refine ⟨vss, h1, h2, h3, h4, reads_off hr hb (fun hn => ?_), ha.imp fun x y hxy => hxy.off hb⟩
  obtain ⟨cs, ⟨B, m, cb, rfl, _⟩, h7⟩ := first_at (MkCells.stable d) ha (by omega) (j := 0) (by omega)
  exact ⟨0, _, h7, fun i e => by cases e⟩
theorem DtCells.off {cs : List Value} {t : Dt} (hb : Blk w ab ti [.int .i64 q]) (h : DtCells d w D cs t) : DtCells d w (fun b => D b ∧ b ≠ ab) cs t := by
  obtain ⟨X, cx, A, n, c, e, h1, h2, h3, h4⟩ := h
  refine ⟨X, cx, A, n, c, e, h1, h2, reads_off h3 hb (fun hn => ?_), h4.off hb⟩
  exact ⟨0, _, strs_at _ 0 hn, fun i e => by cases e⟩
theorem DtsAt.off {l : List Dt} (hb : Blk w ab ti [.int .i64 q]) (h : DtsAt d w D A n c l) : DtsAt d w (fun b => D b ∧ b ≠ ab) A n c l := by
  obtain ⟨vss, h1, h2, h3, h4, hr, ha⟩ := h
  refine ⟨vss, h1, h2, h3, h4, reads_off hr hb (fun hn => ?_), ha.imp fun x y hxy => hxy.off hb⟩
  obtain ⟨cs, ⟨X, cx, B, m, cb, rfl, _⟩, h7⟩ := first_at (DtCells.stable d) ha (by omega) (j := 0) (by omega)
  exact ⟨0, _, h7, fun i e => by cases e⟩
end
end Go.Sh
