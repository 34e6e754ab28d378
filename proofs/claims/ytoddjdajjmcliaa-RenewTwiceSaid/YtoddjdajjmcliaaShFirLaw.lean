/- ShapeFirst's plain law: the default values of the laws' types fit, a reference does not. -/
import Derived.Test.YtoddjdajjmcliaaShTotal
set_option linter.unusedVariables false
namespace Go.Sh
open Go.Val Go.Mem Go.Proofs.Ytoddjdajjmcliaa
theorem first_fits_all : (progs.all fun P => typesF.all fun t => match firstU P t 4 0 with
    | some (some v) => fitsF P 12 .nil t v == some true
    | _ => false) = true := by decide +kernel
theorem ref_not_all : (progs.all fun P => typesF.all fun t => fitsF P 12 .nil t (.mk 6 5 ⟨#[]⟩ []) == some false) = true := by decide +kernel
theorem first_fits {P : List Dt} (hP : P ∈ progs) {t : Ty} (ht : t ∈ typesF) : ∃ v, firstU P t 4 0 = some (some v) ∧ fitsF P 12 .nil t v = some true := by
  have h := List.all_eq_true.1 (List.all_eq_true.1 first_fits_all P hP) t ht
  split at h
  · rename_i v hv
    exact ⟨v, hv, by simpa using h⟩
  · cases h
theorem ref_not {P : List Dt} (hP : P ∈ progs) {t : Ty} (ht : t ∈ typesF) : fitsF P 12 .nil t (.mk 6 5 ⟨#[]⟩ []) = some false := by
  simpa using List.all_eq_true.1 (List.all_eq_true.1 ref_not_all P hP) t ht
/-- the value that numbers say, and that it fits -/
theorem val_fits {y : Nat} (hy : 1 ≤ y ∧ y ≤ 2) (bad : Bool) (l : List Int) {t : Ty} (ht : t ∈ typesF) : ∃ v, Sh.valF (pd y bad) l 10 0 t = some v ∧ fitsF (pd y bad) 10 .nil t v = some true := by
  obtain ⟨v, hv⟩ := val_total hy (bad := bad) (l := l) 6 0 t (typesF_cl ht) (by omega)
  exact ⟨v, hv, fits_cl hy (typesF_cl ht) hv⟩
end Go.Sh
