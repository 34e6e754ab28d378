/- Contracts of version.not, version.Not, checkBoth at sets. -/
import Derived.Test.YtcmohbeibnfpaaaDoorVerChk
import Derived.Outline
set_option linter.unusedVariables false
namespace Go.Ver
theorem notGo_nil (nx : Nat) : notGo nx [] = if nx ≤ 9999 then [(nx, 9999)] else [] := rfl
theorem notGo_cons (nx : Nat) (r : Rg) (t : List Rg) : notGo nx (r :: t) = (if nx < r.1 then [(nx, r.1 - 1)] else []) ++ notGo (r.2 + 1) t := rfl
end Go.Ver
namespace Go.Proofs.YtcmohbeibnfpaaaDoor
open Go.RowKit Go.Mem Go.Ver
/-- a row of the call's own that holds ranges -/
def OwnR (w0 w : World) (l : List Rg) (A : Option Addr) (c : Nat) : Prop := w.ownsRow w0.heap.size 34 2 (.slice A l.length c) l.length (rgs l) ∧ Below w0.heap.size w0 w
theorem OwnR.nil (w : World) : OwnR w w [] none 0 := ⟨World.ownsRow_nil _ _ _ _, Below.refl _ _⟩
theorem OwnR.holds {w0 w : World} {l : List Rg} {A : Option Addr} {c : Nat} (h : OwnR w0 w l A c) : Ver.Holds w l A c := by
  obtain ⟨h1, h2, h3⟩ := own_reads (by omega) h.1
  exact ⟨h1, h2, h3.imp (by omega) fun _ _ _ => trivial⟩
theorem OwnR.alloc {w0 w : World} {l : List Rg} {A : Option Addr} {c : Nat} (h : OwnR w0 w l A c) (o : Obj) : OwnR w0 (w.alloc o) l A c := ⟨h.1.alloc o, h.2.alloc h.2.size o⟩
theorem OwnR.app {w0 w w' : World} {l : List Rg} {A A' : Option Addr} {c c' : Nat} {r : Rg} (h : OwnR w0 w l A c) (hown : w'.ownsRow w0.heap.size 34 2 (.slice A' (l.length + 1) c') (l.length + 1) (rgs l ++ rgc r)) (hg : w.grownBy w' (Value.slice A l.length c).ownBlock) : OwnR w0 w' (l ++ [r]) A' c' := by
  refine ⟨?_, h.2.grown hg h.2.size fun k hk => (h.1.lt k hk).1⟩
  rw [rgs_append, rgs_one]
  simpa using hown
theorem reads_new2 (w : World) (o : Obj) (cs : List Value) (size n : Nat) (e : TypeId) (hl : cs.length = n * size) : Reads ((w.alloc o).alloc (.cells cs.toArray e)) Any size (some ⟨w.heap.size + 1, 0, none⟩) n cs := by
  have := Reads.new (D := Any) (w.alloc o) cs size n e trivial hl
  simpa using this
theorem OwnR.drew {w0 w : World} {l : List Rg} {A : Option Addr} {c : Nat} (h : OwnR w0 w l A c) : OwnR w0 w.drew l A c := ⟨h.1.drew, ⟨h.2.os, h.2.tape, h.2.output, h.2.size, h.2.block⟩⟩

end Go.Proofs.YtcmohbeibnfpaaaDoor
