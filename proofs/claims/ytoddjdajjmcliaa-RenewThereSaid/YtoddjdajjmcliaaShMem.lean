/- Types and datas in memory. -/
import Derived.Test.YtoddjdajjmcliaaProg
import Derived.Test.YtoddjdajjmcliaaMem
import Derived.Test.YtoddjdajjmcliaaShLaw
import Derived.Test.YtoddjdajjmcliaaMap
import Derived.Test.YtoddjdajjmcliaaJLawNumS
import Derived.Test.YtoddjdajjmcliaaGrown
import Derived.KernelRfl
import Derived.WalkSpells
import Derived.Deep.QuietTactic
import Derived.BigQuiet
import Derived.StringKeys
import Derived.Laws.Cover1
import Derived.Deep.CutBlock
import Derived.Sort.Walk0
set_option linter.unusedVariables false
namespace Go.Sh
open Go.RowKit Go.Mem
abbrev str (n : Nm) : Value := .string ⟨n.toArray⟩
def strs (l : List Nm) : List Value := l.map str
theorem strs_at (l : List Nm) (k : Nat) (h : k < l.length) : (strs l)[k]? = some (str l[k]) := by simp [strs, h]
theorem beq_nm (x y : Nm) : (x == y) = decide (x = y) := by
  rw [Bool.eq_iff_iff, beq_iff_eq, decide_eq_true_eq]
/-- the three cells of a type of at most a depth -/
def TCells : Nat → World → (Nat → Prop) → List Value → Ty → Prop
  | 0, _, _, _, _ => False
  | d + 1, w, D, cs, .mk k n ts => ∃ A c vss, cs = [.int .i64 (k : Nat), str n, .slice A ts.length c] ∧ k ≤ 9 ∧ n.length ≤ 1000 ∧ ts.length ≤ 1000 ∧ ts.length ≤ c ∧ c ≤ maxLen ∧ Reads w D 3 A ts.length vss.flatten ∧ All2 (TCells d w D) vss ts
theorem TCells.keep : ∀ {d : Nat} {w w' : World} {D : Nat → Prop} {cs : List Value} {t : Ty}, TCells d w D cs t → Same D w w' → TCells d w' D cs t
  | 0, _, _, _, _, _, h, _ => h
  | d + 1, w, w', D, cs, .mk k n ts, h, hk => by
    obtain ⟨A, c, vss, e, h1, h2, h3, h4, h5, hr, ha⟩ := h
    exact ⟨A, c, vss, e, h1, h2, h3, h4, h5, hr.keep hk, ha.imp fun x y hxy => hxy.keep hk⟩
theorem TCells.imp : ∀ {d : Nat} {w : World} {D D' : Nat → Prop} {cs : List Value} {t : Ty}, TCells d w D cs t → (∀ b, D b → b < w.heap.size → D' b) → TCells d w D' cs t
  | 0, _, _, _, _, _, h, _ => h
  | d + 1, w, D, D', cs, .mk k n ts, h, hk => by
    obtain ⟨A, c, vss, e, h1, h2, h3, h4, h5, hr, ha⟩ := h
    exact ⟨A, c, vss, e, h1, h2, h3, h4, h5, hr.imp (by omega) hk, ha.imp fun x y hxy => hxy.imp hk⟩
theorem TCells.form {d : Nat} {w : World} {D : Nat → Prop} {cs : List Value} {t : Ty} (h : TCells d w D cs t) : ∃ A c, cs = [.int .i64 (t.kind : Nat), str t.name, .slice A t.args.length c] := by
  cases d with
  | zero => exact h.elim
  | succ d =>
    obtain ⟨k, n, a⟩ := t
    obtain ⟨A, c, vss, e, _⟩ := h
    exact ⟨A, c, e⟩
theorem TCells.stable (d : Nat) : Stable 3 (TCells d) where
  keep := fun h hk => h.keep hk
  imp := fun h hk => h.imp hk
  len := fun h => by obtain ⟨A, c, e⟩ := h.form; rw [e]; rfl
  one := fun h u hu => by obtain ⟨A, c, e⟩ := h.form; rw [e] at hu; simp at hu; rcases hu with rfl | rfl | rfl <;> rfl
/-- a slice of types -/
def TsAt (d : Nat) (w : World) (D : Nat → Prop) (A : Option Addr) (n c : Nat) (ts : List Ty) : Prop := ∃ vss, n = ts.length ∧ n ≤ 1000 ∧ n ≤ c ∧ c ≤ maxLen ∧ Reads w D 3 A n vss.flatten ∧ All2 (TCells d w D) vss ts
section
variable {d : Nat} {w w' : World} {D D' : Nat → Prop} {A : Option Addr} {n c : Nat} {ts : List Ty}
theorem TsAt.keep (h : TsAt d w D A n c ts) (hk : Same D w w') : TsAt d w' D A n c ts := by
  obtain ⟨vss, h1, h2, h3, h4, hr, ha⟩ := h
  exact ⟨vss, h1, h2, h3, h4, hr.keep hk, ha.imp fun x y hxy => hxy.keep hk⟩
theorem TsAt.imp (h : TsAt d w D A n c ts) (hk : ∀ b, D b → b < w.heap.size → D' b) : TsAt d w D' A n c ts := by
  obtain ⟨vss, h1, h2, h3, h4, hr, ha⟩ := h
  exact ⟨vss, h1, h2, h3, h4, hr.imp (by omega) hk, ha.imp fun x y hxy => hxy.imp hk⟩
theorem TsAt.nil : TsAt d w D none 0 0 [] := ⟨[], rfl, by omega, Nat.le_refl _, Nat.zero_le _, Reads.empty, All2.nil⟩
/-- a type, ts a value -/
def TyAt (d : Nat) (w : World) (D : Nat → Prop) (k : Nat) (n : Nm) (A : Option Addr) (m c : Nat) (t : Ty) : Prop := t.kind = k ∧ t.name = n ∧ k ≤ 9 ∧ n.length ≤ 1000 ∧ ∃ e, d = e + 1 ∧ TsAt e w D A m c t.args
theorem TyAt.keep {k : Nat} {n : Nm} {m : Nat} {t : Ty} (h : TyAt d w D k n A m c t) (hk : Same D w w') : TyAt d w' D k n A m c t := by
  obtain ⟨h1, h2, h3, h4, e, h5, h6⟩ := h
  exact ⟨h1, h2, h3, h4, e, h5, h6.keep hk⟩
theorem TyAt.imp {k : Nat} {n : Nm} {m : Nat} {t : Ty} (h : TyAt d w D k n A m c t) (hk : ∀ b, D b → b < w.heap.size → D' b) : TyAt d w D' k n A m c t := by
  obtain ⟨h1, h2, h3, h4, e, h5, h6⟩ := h
  exact ⟨h1, h2, h3, h4, e, h5, h6.imp hk⟩
/-- element k of a slice of types -/
theorem TsAt.cells (h : TsAt d w D A n c ts) {j : Nat} (hj : j < n) (hl : j < ts.length) :
    ∃ b off B m e, A = some ⟨b, off, none⟩ ∧ D b ∧ w.cell? ⟨b, off + j * 3, none⟩ = some (.int .i64 (ts[j].kind : Nat)) ∧ w.cell? ⟨b, off + j * 3 + 1, none⟩ = some (str ts[j].name) ∧ w.cell? ⟨b, off + j * 3 + 2, none⟩ = some (.slice B m e) ∧ TyAt d w D ts[j].kind ts[j].name B m e ts[j] := by
  obtain ⟨vss, h1, h2, h3, h4, hr, ha⟩ := h
  obtain ⟨b, off, cs, e, hD, hT, hc⟩ := hr.elem (TCells.stable d) ha h1 hl
  cases d with
  | zero => exact hT.elim
  | succ d =>
    generalize ts[j] = t at hT
    obtain ⟨k, nm, bs⟩ := t
    obtain ⟨B, cb, vs2, e1, q1, q2, q3, q4, q5, q6, q7⟩ := hT
    subst e1
    exact ⟨b, off, B, bs.length, cb, e, hD, hc 0 _ rfl, by have := hc 1 _ rfl; rwa [← Nat.add_assoc] at this, by have := hc 2 _ rfl; rwa [← Nat.add_assoc] at this, rfl, rfl, q1, q2, d, rfl, vs2, rfl, q3, q4, q5, q6, q7⟩
end
/-- the two cells of a make -/
def MkCells (d : Nat) (w : World) (D : Nat → Prop) (cs : List Value) (m : Mk) : Prop := ∃ A n c, cs = [str m.name, .slice A n c] ∧ m.name.length ≤ 1000 ∧ TsAt d w D A n c m.args
theorem MkCells.stable (d : Nat) : Stable 2 (MkCells d) where
  keep := fun ⟨A, n, c, e, h1, h2⟩ hk => ⟨A, n, c, e, h1, h2.keep hk⟩
  imp := fun ⟨A, n, c, e, h1, h2⟩ hk => ⟨A, n, c, e, h1, h2.imp hk⟩
  len := fun ⟨A, n, c, e, _⟩ => by rw [e]; rfl
  one := fun ⟨A, n, c, e, _⟩ u hu => by rw [e] at hu; simp at hu; rcases hu with rfl | rfl <;> rfl
/-- a slice of makes -/
def MksAt (d : Nat) (w : World) (D : Nat → Prop) (A : Option Addr) (n c : Nat) (l : List Mk) : Prop := ∃ vss, n = l.length ∧ n ≤ 1000 ∧ n ≤ c ∧ c ≤ maxLen ∧ Reads w D 2 A n vss.flatten ∧ All2 (MkCells d w D) vss l
section
variable {d : Nat} {w w' : World} {D D' : Nat → Prop} {A : Option Addr} {n c : Nat} {l : List Mk}
theorem MksAt.keep (h : MksAt d w D A n c l) (hk : Same D w w') : MksAt d w' D A n c l := by
  obtain ⟨vss, h1, h2, h3, h4, hr, ha⟩ := h
  exact ⟨vss, h1, h2, h3, h4, hr.keep hk, ha.imp fun x y hxy => (MkCells.stable d).keep hxy hk⟩
theorem MksAt.imp (h : MksAt d w D A n c l) (hk : ∀ b, D b → b < w.heap.size → D' b) : MksAt d w D' A n c l := by
  obtain ⟨vss, h1, h2, h3, h4, hr, ha⟩ := h
  exact ⟨vss, h1, h2, h3, h4, hr.imp (by omega) hk, ha.imp fun x y hxy => (MkCells.stable d).imp hxy hk⟩
theorem MksAt.cells (h : MksAt d w D A n c l) {j : Nat} (hj : j < n) (hl : j < l.length) :
    ∃ b off B m e, A = some ⟨b, off, none⟩ ∧ D b ∧ w.cell? ⟨b, off + j * 2, none⟩ = some (str l[j].name) ∧ w.cell? ⟨b, off + j * 2 + 1, none⟩ = some (.slice B m e) ∧ l[j].name.length ≤ 1000 ∧ TsAt d w D B m e l[j].args := by
  obtain ⟨vss, h1, h2, h3, h4, hr, ha⟩ := h
  obtain ⟨b, off, cs, e, hD, ⟨B, m, cb, rfl, q1, q2⟩, hc⟩ := hr.elem (MkCells.stable d) ha h1 hl
  exact ⟨b, off, B, m, cb, e, hD, hc 0 _ rfl, by have := hc 1 _ rfl; rwa [← Nat.add_assoc] at this, q1, q2⟩
end
/-- the three cells of a data -/
def DtCells (d : Nat) (w : World) (D : Nat → Prop) (cs : List Value) (t : Dt) : Prop := ∃ X cx A n c, cs = [str t.name, .slice X t.params.length cx, .slice A n c] ∧ t.name.length ≤ 1000 ∧ t.params.length ≤ 1000 ∧ Reads w D 1 X t.params.length (strs t.params) ∧ MksAt d w D A n c t.makes
theorem DtCells.stable (d : Nat) : Stable 3 (DtCells d) where
  keep := fun ⟨X, cx, A, n, c, e, h1, h2, h3, h4⟩ hk => ⟨X, cx, A, n, c, e, h1, h2, h3.keep hk, h4.keep hk⟩
  imp := fun ⟨X, cx, A, n, c, e, h1, h2, h3, h4⟩ hk => ⟨X, cx, A, n, c, e, h1, h2, h3.imp (by omega) hk, h4.imp hk⟩
  len := fun ⟨X, cx, A, n, c, e, _⟩ => by rw [e]; rfl
  one := fun ⟨X, cx, A, n, c, e, _⟩ u hu => by rw [e] at hu; simp at hu; rcases hu with rfl | rfl | rfl <;> rfl
/-- a slice of datas -/
def DtsAt (d : Nat) (w : World) (D : Nat → Prop) (A : Option Addr) (n c : Nat) (l : List Dt) : Prop := ∃ vss, n = l.length ∧ n ≤ 1000 ∧ n ≤ c ∧ c ≤ maxLen ∧ Reads w D 3 A n vss.flatten ∧ All2 (DtCells d w D) vss l
section
variable {d : Nat} {w w' : World} {D D' : Nat → Prop} {A : Option Addr} {n c : Nat} {l : List Dt}
theorem DtsAt.keep (h : DtsAt d w D A n c l) (hk : Same D w w') : DtsAt d w' D A n c l := by
  obtain ⟨vss, h1, h2, h3, h4, hr, ha⟩ := h
  exact ⟨vss, h1, h2, h3, h4, hr.keep hk, ha.imp fun x y hxy => (DtCells.stable d).keep hxy hk⟩
theorem DtsAt.imp (h : DtsAt d w D A n c l) (hk : ∀ b, D b → b < w.heap.size → D' b) : DtsAt d w D' A n c l := by
  obtain ⟨vss, h1, h2, h3, h4, hr, ha⟩ := h
  exact ⟨vss, h1, h2, h3, h4, hr.imp (by omega) hk, ha.imp fun x y hxy => (DtCells.stable d).imp hxy hk⟩
theorem DtsAt.cells (h : DtsAt d w D A n c l) {j : Nat} (hj : j < n) (hl : j < l.length) :
    ∃ b off X cx B m e, A = some ⟨b, off, none⟩ ∧ D b ∧ w.cell? ⟨b, off + j * 3, none⟩ = some (str l[j].name) ∧ w.cell? ⟨b, off + j * 3 + 1, none⟩ = some (.slice X l[j].params.length cx) ∧ w.cell? ⟨b, off + j * 3 + 2, none⟩ = some (.slice B m e) ∧ l[j].name.length ≤ 1000 ∧ l[j].params.length ≤ 1000 ∧ Reads w D 1 X l[j].params.length (strs l[j].params) ∧ MksAt d w D B m e l[j].makes := by
  obtain ⟨vss, h1, h2, h3, h4, hr, ha⟩ := h
  obtain ⟨b, off, cs, e, hD, ⟨X, cx, B, m, cb, rfl, q1, q2, q3, q4⟩, hc⟩ := hr.elem (DtCells.stable d) ha h1 hl
  exact ⟨b, off, X, cx, B, m, cb, e, hD, hc 0 _ rfl, by have := hc 1 _ rfl; rwa [← Nat.add_assoc] at this, by have := hc 2 _ rfl; rwa [← Nat.add_assoc] at this, q1, q2, q3, q4⟩
end
end Go.Sh
namespace Go.Proofs.Ytoddjdajjmcliaa
open Go.RowKit Go.Mem Go.Sh Go.Maps
def okS (n : Nm) : Prop := n.length ≤ 65536
theorem enc_S : Enc Try.prog 9 str okS where
  keyed := string_keyed Try.underlying9
  inj := fun a b h => by
    injection h with h
    injection h with h
    have := congrArg Array.toList h
    simpa using this
  key := fun a h => ⟨_, Go.WideMaps.keyOf_string_mk Try.underlying9 (by
    unfold okS at h
    have : (ByteArray.mk a.toArray).size = a.length := by simp [ByteArray.size]
    rw [this]
    unfold maxLen
    omega)⟩
end Go.Proofs.Ytoddjdajjmcliaa
