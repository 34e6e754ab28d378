/- A program of the laws, told by what the laws read of it. -/
import Derived.Test.YtoddjdajjmcliaaPgOf
import Derived.Test.YtoddjdajjmcliaaShSelfLaw
set_option linter.unusedVariables false
namespace Go.Proofs.Ytoddjdajjmcliaa
open Go.RowKit Go.Mem Go.Sh Go.Maps
/-- a program of the laws, told by what the laws read of it -/
structure PgIn (w : World) (A : Option Addr) (n c bc e : Nat) (P : List Dt) (An : Option Addr) (cn : Nat) (At : Option Addr) (ct q m : Nat) (T : List Ty) : Prop where
  dts : DtsAt 4 w Any A n c P
  act : Blk w bc 40 (acell An m cn At ct q)
  ts : TsAt 4 w Any At m ct T
  sub : ∀ t ∈ T, t ∈ typesF
  mem : P ∈ progs
  pos : 0 < m ∧ m ≤ 6 ∧ m = T.length
theorem PgIn.below {w w' : World} {A : Option Addr} {n c bc e : Nat} {P : List Dt} {An : Option Addr} {cn : Nat} {At : Option Addr} {ct q m : Nat} {T : List Ty} (h : PgIn w A n c bc e P An cn At ct q m T) (hb : Below w.heap.size w w') : PgIn w' A n c bc e P An cn At ct q m T :=
  ⟨h.dts.keep (Same.any hb), h.act.below hb h.act.lt, h.ts.keep (Same.any hb), h.sub, h.mem, h.pos⟩
theorem PgmAt.in_ {w : World} {p : Pg} {y : Nat} {bad : Bool} {q bits : Nat} (h : PgmAt w p y bad q (idxF bits 9)) (hy : 1 ≤ y ∧ y ≤ 2) (hb : 1 ≤ bits ∧ bits ≤ 511) : ∃ A n c bc e P An cn At ct m T, p = ⟨A, n, c, some ⟨bc, 0, none⟩, 1, e⟩ ∧ PgIn w A n c bc e P An cn At ct q m T := by
  obtain ⟨A, n, c, B, m, e⟩ := p
  obtain ⟨h1, h2, bc, An, cn, At, ct, h3, h4, h5, h6, h7, h8⟩ := h
  simp only at h1 h2 h3
  subst h2 h3
  refine ⟨A, n, c, bc, e, _, An, cn, At, ct, _, _, rfl, h1, h4, h8, fun t ht => ?_, pd_mem hy bad, idxF_pos hb, (idxF_le bits 9).1, by simp⟩
  obtain ⟨i, _, rfl⟩ := List.mem_map.1 ht
  exact tyF_mem i
theorem progs_pd {P : List Dt} (h : P ∈ progs) : ∃ y bad, (1 ≤ y ∧ y ≤ 2) ∧ P = pd y bad := by
  simp only [progs, List.mem_cons, List.not_mem_nil, or_false] at h
  rcases h with rfl | rfl | rfl | rfl
  · exact ⟨1, true, by omega, rfl⟩
  · exact ⟨1, false, by omega, rfl⟩
  · exact ⟨2, true, by omega, rfl⟩
  · exact ⟨2, false, by omega, rfl⟩
end Go.Proofs.Ytoddjdajjmcliaa
