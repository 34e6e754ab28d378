/- What package version's texts ask of the world: a table, a shape; kept when the world grows. Contracts of strconv.Itoa and strconv.Atoi at numerals. -/
import Derived.Test.YtcmohbeibnfpaaaDoorVerMem
import Derived.Test.YtcmohbeibnfpaaaDoorVbLaw
import Derived.Test.YtcmohbeibnfpaaaDoorVbShelf
import Derived.Lib.ItoaMem
import Derived.Lib.AppendIntMem
import Derived.Lib.SmallJoins
import Derived.ChangeAgain
set_option linter.unusedVariables false
namespace Go.Proofs.YtcmohbeibnfpaaaDoor
open Go.RowKit Go.Mem Go.Ver
structure Env (w : World) : Prop where
  tab : Lib.TabIs Tryd.prog w "internal/strconv.uint64pow10" .u64 Lib.pow10Tab
  sh : w.ShapedOpen Tryd.prog
theorem tab_keep {P : Program} {w w' : World} {name : String} {k : IntKind} {zs : List Int} (h : Lib.TabIs P w name k zs) (hb : Below w.heap.size w w') : Lib.TabIs P w' name k zs := by
  unfold Lib.TabIs World.var? at h ⊢
  cases e : P.globalNamed name with
  | none => rw [e] at h; simp at h
  | some g =>
    rw [e] at h
    simp only [Option.bind_some] at h ⊢
    cases e2 : w.heap[g]? with
    | none => rw [e2] at h; simp at h
    | some o =>
      have hg : g < w.heap.size := (Array.getElem?_eq_some_iff.1 e2).1
      rw [hb.block g hg]
      exact h
theorem Env.below {w w' : World} (h : Env w) (hb : Below w.heap.size w w') : Env w' :=
  ⟨tab_keep h.tab hb, h.sh.keptBut (may := fun _ => False) (hb.frame _) (fun _ h => h.elim)⟩
theorem itoa_any (u : Nat) (hu : u ≤ 9999) (w : World) (h : Env w) : Calls Tryd.prog 13 #[.int .i64 (u : Nat)] w fun e w' => e = .returned (.string ⟨(Lib.decDigits u).toArray⟩) ∧ Below w.heap.size w w' := by
  refine (Tryd.strconv_Itoa (u : Int) (by omega) (by omega) w h.tab).mono ?_
  rintro e w' ⟨rfl, k, os, rfl⟩
  exact ⟨by rw [Lib.itoa_nonneg], Lib.below_grow _ w (Nat.le_refl _) k os⟩
theorem atoi_any (u : Nat) (hu : u ≤ 9999) (w : World) : Calls Tryd.prog 17 #[.string ⟨(Lib.decDigits u).toArray⟩] w fun e w' => e = .returned (.tuple #[.int .i64 (u : Nat), .nilIface]) ∧ Below w.heap.size w w' := by
  have hl := Txt.digits_len (u := u) (k := 4) (by omega) (by omega)
  refine (Tryd.strconv_Atoi_ok ⟨(Lib.decDigits u).toArray⟩ (by simp [ByteArray.size]; omega) (u : Int) (Txt.atoi_digits u (by omega)) w).mono ?_
  rintro e w' ⟨rfl, rfl | ⟨t, rfl⟩⟩
  · exact ⟨rfl, Below.refl _ _⟩
  · exact ⟨rfl, Joins.below_bytesWorld _ _ _ _ (Nat.le_refl _)⟩
end Go.Proofs.YtcmohbeibnfpaaaDoor
