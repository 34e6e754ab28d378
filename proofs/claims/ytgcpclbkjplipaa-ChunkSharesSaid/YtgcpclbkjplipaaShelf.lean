/- A shelf in memory; contracts of chunk.New, (*Shelf).free, Put, Drop. -/
import Derived.Test.YtgcpclbkjplipaaBase
import Derived.Test.YtgcpclbkjplipaaShelfLaw
import Derived.Test.YtgcpclbkjplipaaGrown
import Derived.Deep.QuietTactic
import Derived.BigQuiet
import Derived.StringKeys
import Derived.StillTailTactics
set_option linter.unusedVariables false
namespace Go.Mem
section
variable {α : Type} [DecidableEq α] {β γ : Type}
theorem mget_mapv (l : List (α × β)) (f : β → γ) (a : α) : mget (l.map fun p => (p.1, f p.2)) a = (mget l a).map f := by
  induction l with
  | nil => rfl
  | cons p r ih =>
    rw [List.map_cons, mget_cons, ih, mget_cons]
    by_cases h : p.1 = a <;> simp [h]
theorem del_map (l : List (α × β)) (f : β → γ) (a : α) : (mdel l a).map (fun p => (p.1, f p.2)) = mdel (l.map fun p => (p.1, f p.2)) a := by
  unfold mdel
  rw [List.filter_map]
  rfl
end
end Go.Mem
namespace Go.Proofs.Ytgcpclbkjplipaa
open Go.RowKit Go.Mem Go.Chunk Go.Maps

def encN (n : Nat) : Value := .int .i64 n
def okN (n : Nat) : Prop := n ≤ 1000000000
def encB (b : Bs) : Value := .string ⟨b.toArray⟩
def okB (b : Bs) : Prop := b.length ≤ 65536
def pv (p : Bs × Nat) : Value := .agg #[.string ⟨p.1.toArray⟩, .int .i64 p.2]
theorem enc_N : Enc Try.prog 3 encN okN where
  keyed := int_keyed Try.underlying3
  inj := fun a b h => by unfold encN at h; injection h with _ h; omega
  key := fun a h => ⟨_, keyOf_int_mk Try.underlying3 (by unfold okN at h; exact WalkArith.wf_i64 (by omega))⟩
theorem enc_B : Enc Try.prog 9 encB okB where
  keyed := string_keyed Try.underlying9
  inj := fun a b h => by
    unfold encB at h
    injection h with h
    injection h with h
    have := congrArg Array.toList h
    simpa using this
  key := fun a h => ⟨_, Go.WideMaps.keyOf_string_mk Try.underlying9 (by
    unfold okB at h
    have : (ByteArray.mk a.toArray).size = a.length := by simp [ByteArray.size]
    rw [this]
    unfold maxLen
    omega)⟩
theorem zero_pc : ∀ w : World, (zeroValue 121).run Try.prog w = .ok (.agg #[.string ⟨#[]⟩, .int .i64 0]) w := fun _ => by kernel_rfl
theorem zero_in : ∀ w : World, (zeroValue 3).run Try.prog w = .ok (.int .i64 0) w := fun _ => by kernel_rfl

/-- a shelf in blocks S, P, N -/
structure ShelfAt (w : World) (S P N : Nat) (s : Shf) : Prop where
  blk : Blk w S 118 [.map (some P), .map (some N)]
  ps : MapOf encN okN w P (s.ps.map fun p => (p.1, pv p.2))
  ns : MapOf encB okB w N (s.ns.map fun p => (p.1, encN p.2))
  sp : S ≠ P
  sn : S ≠ N
  pn : P ≠ N
def OwnPN (P N : Nat) (b : Nat) : Prop := b = P ∨ b = N
section
variable {w w' : World} {S P N : Nat} {s s' : Shf}
theorem ShelfAt.same (h : ShelfAt w S P N s) (k : ∀ b, b = S ∨ b = P ∨ b = N → w'.heap[b]? = w.heap[b]?) : ShelfAt w' S P N s :=
  ⟨(k S (by simp)).trans h.blk, h.ps.same (k P (by simp)), h.ns.same (k N (by simp)), h.sp, h.sn, h.pn⟩
theorem ShelfAt.lt (h : ShelfAt w S P N s) : S < w.heap.size ∧ P < w.heap.size ∧ N < w.heap.size := ⟨h.blk.lt, h.ps.lt, h.ns.lt⟩
theorem ShelfAt.below (h : ShelfAt w S P N s) (hb : Below w.heap.size w w') : ShelfAt w' S P N s := by
  obtain ⟨h1, h2, h3⟩ := h.lt
  exact h.same fun b hbe => hb.block b (by rcases hbe with rfl | rfl | rfl <;> assumption)
theorem ShelfAt.putP (h : ShelfAt w S P N s) {ps' : List (Nat × (Bs × Nat))} (hm : MapOf encN okN w' P (ps'.map fun p => (p.1, pv p.2))) (hg : w.grownBy w' (some P)) : ShelfAt w' S P N ⟨ps', s.ns⟩ :=
  ⟨h.blk.grown hg (by simp [h.sp]), hm, h.ns.grown hg (by simp [h.pn.symm]), h.sp, h.sn, h.pn⟩
theorem ShelfAt.putN (h : ShelfAt w S P N s) {ns' : List (Bs × Nat)} (hm : MapOf encB okB w' N (ns'.map fun p => (p.1, encN p.2))) (hg : w.grownBy w' (some N)) : ShelfAt w' S P N ⟨s.ps, ns'⟩ :=
  ⟨h.blk.grown hg (by simp [h.sn]), h.ps.grown hg (by simp [h.pn]), hm, h.sp, h.sn, h.pn⟩
/-- s.pieces[n], at any world with the same blocks -/
theorem ShelfAt.lookP (h : ShelfAt w S P N s) (n : Nat) (hn : n ≤ 1000000000) (c : Bool) (W : World) (hW : W.heap[P]? = w.heap[P]?) :
    (Instr.lookup 115 (.map (some P)) (.int .i64 (n : Int)) c).run Try.prog W = .ok (if c then .tuple #[pv ((mget s.ps n).getD ([], 0)), .bool (mget s.ps n).isSome] else pv ((mget s.ps n).getD ([], 0))) W := by
  have := (h.ps.same hW).lookup enc_N Try.underlying115 zero_pc (a := n) hn c
  rw [mget_mapv] at this
  have e1 : ((mget s.ps n).map pv).getD (.agg #[.string ⟨#[]⟩, .int .i64 0]) = pv ((mget s.ps n).getD ([], 0)) := by cases mget s.ps n <;> rfl
  have e2 : ((mget s.ps n).map pv).isSome = (mget s.ps n).isSome := by cases mget s.ps n <;> rfl
  rw [e1, e2] at this
  exact this
theorem ShelfAt.lookN (h : ShelfAt w S P N s) (b : Bs) (hb : b.length ≤ 65536) (W : World) (hW : W.heap[N]? = w.heap[N]?) :
    (Instr.lookup 116 (.map (some N)) (.string ⟨b.toArray⟩) true).run Try.prog W = .ok (.tuple #[.int .i64 ((mget s.ns b).getD 0 : Nat), .bool (mget s.ns b).isSome]) W := by
  have := (h.ns.same hW).lookup enc_B Try.underlying116 zero_in (a := b) hb true
  rw [mget_mapv] at this
  have e1 : ((mget s.ns b).map encN).getD (.int .i64 0) = .int .i64 ((mget s.ns b).getD 0 : Nat) := by cases mget s.ns b <;> rfl
  have e2 : ((mget s.ns b).map encN).isSome = (mget s.ns b).isSome := by cases mget s.ns b <;> rfl
  rw [e1, e2, if_pos rfl] at this
  exact this
end

set_option maxRecDepth 100000 in
theorem newshelf_any (w : World) : Calls Try.prog 21 #[] w fun e w' => ∃ S P N, e = .returned (.pointer (some ⟨S, 0, none⟩)) ∧ ShelfAt w' S P N ⟨[], []⟩ ∧ w.heap.size ≤ S ∧ w.heap.size ≤ P ∧ w.heap.size ≤ N ∧ Below w.heap.size w w' := by
  have hm1 := @run_makeMap Try.prog
  go_enter Try.func21, Try.ntmps21
  go_wp2
  go_ret
  have b1 : MapOf encN okN (w.alloc (.map #[] 0)) w.heap.size [] := MapOf.new w
  have b2 : MapOf encB okB ((w.alloc (.map #[] 0)).alloc (.map #[] 0)) (w.alloc (.map #[] 0)).heap.size [] := MapOf.new _
  have b3 := Blk.new ((w.alloc (.map #[] 0)).alloc (.map #[] 0)) 118 [.map (some w.heap.size), .map (some (w.heap.size + 1))]
  simp at b2 b3
  exact ⟨_, _, _, rfl, ⟨b3, (b1.alloc _).alloc _, b2.alloc _, by omega, by omega, by omega⟩, by omega, by omega, by omega, (((Below.refl _ _).alloc (Nat.le_refl _) _).alloc (by simp) _).alloc (by simp; omega) _⟩
end Go.Proofs.Ytgcpclbkjplipaa
