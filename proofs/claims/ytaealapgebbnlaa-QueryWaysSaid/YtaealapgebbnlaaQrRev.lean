/- append onto a row of one's own and slices.Reverse, at strings. -/
import Derived.Test.YtaealapgebbnlaaQrQuery
import Derived.Sort.OwnSorted
set_option linter.unusedVariables false
namespace Go.Proofs.Ytaealapgebbnlaa
open Go.RowKit Go.Mem Go.Md Go.Maps
theorem app_stro (w : World) {ops : Array Oper} {rest : List Oper} {o : Oper} {a : Act} {Q : Exit → Act → World → Prop} (hgd : o.guard = none) (s x : Operand)
    (ho : o.op = .call { callee := .builtin .append, args := #[s, x], argTypes := #[32, 32] })
    {base : Nat} {v : Value} {n : Nat} {xs : List Value} (hown : w.ownsRow base 9 1 v n xs) (hs : a.eval s = v)
    {D : Nat → Prop} {A : Option Addr} {m : Nat} {news : List Value} (hr : Reads w D 1 A m news) {c : Nat} (hx : a.eval x = .slice A m c) (h1 : ∀ u ∈ news, u.oneCell' = true)
    (h63 : n + m ≤ 109951162) (hbase : base ≤ w.heap.size)
    (h : ∀ v' w', w'.ownsRow base 9 1 v' (n + m) (xs ++ news) → w.grownBy w' v.ownBlock → (v'.ownBlock = v.ownBlock ∨ v'.ownBlock = some w.heap.size) → wpList Try.prog ops Q rest (a.put o.dst v') w') : wpList Try.prog ops Q (o :: rest) a w := by
  obtain ⟨i0, hi0, hz0, hz1, hz2⟩ := info_parts info_str
  exact wpList_append_any w hgd s x _ ho base _ i0 _ 1 16 Try.underlying32 hi0 hz0 hz1 hz2 rfl (by omega) v n xs hs hown D A m c news hx hr h1 (by simp only [maxLen]; omega) (by omega) hbase h
theorem reverse_any (base g c : Nat) (xs : List Bs) (w : World) (hown : w.ownsRow base 9 1 (.slice (some ⟨g, 0, none⟩) xs.length c) xs.length (xs.map bst)) (hl : xs.length ≤ 1000) :
    Calls Try.prog 21 #[.slice (some ⟨g, 0, none⟩) xs.length c] w fun e w' => e = .returned (.tuple #[]) ∧ Reads w' (fun b => b = g) 1 (some ⟨g, 0, none⟩) xs.length (xs.reverse.map bst) ∧ w.grownBy w' (some g) := by
  have hH : Go.Sort.Holds Go.Proofs.encStr w g 0 xs.toArray := fun j hj => by
    have hj2 : j < xs.length := by simpa using hj
    refine ⟨?_, own_frozen hown _⟩
    have h1 := own_cell hown (o := j) (u := bst xs[j]) (by rw [List.getElem?_map, List.getElem?_eq_getElem hj2]; rfl)
    rw [Nat.zero_add]
    refine h1.trans ?_
    rw [getElem!_pos _ j hj]
    rfl
  refine (Try.slices_Reverse_string g 0 c xs w hH (by omega)).mono ?_
  rintro e w' ⟨rfl, n, rfl⟩
  have hH2 : Go.Sort.Holds Go.Proofs.encStr (Go.Sort.ahead w n) g 0 xs.toArray := fun j hj => hH j hj
  have h3 := Go.Sort.holds_putRow Go.Proofs.encStr (Go.Sort.ahead w n) g 0 xs.toArray xs.reverse.toArray hH2 (by simp)
  refine ⟨rfl, ⟨by simp, fun _ => ⟨g, 0, rfl, rfl, fun i u hu => ?_⟩⟩, ?_⟩
  · rw [List.getElem?_map] at hu
    rcases he : xs.reverse[i]? with _ | x
    · rw [he] at hu
      cases hu
    · rw [he] at hu
      injection hu with hu
      have hi : i < xs.reverse.length := (List.getElem?_eq_some_iff.1 he).1
      have hi2 : i < xs.reverse.toArray.size := by simpa using hi
      refine (h3 i hi2).1.trans ?_
      rw [getElem!_pos _ i hi2, ← hu]
      have : xs.reverse.toArray[i] = x := by
        have h9 := List.getElem?_eq_getElem hi
        rw [he] at h9
        injection h9 with h9
        simpa using h9.symm
      rw [this]
  · have h4 := Go.grownBy_sorted (w := w) (g := g) (n := n) (os := #[]) xs.reverse.toArray
    rw [Go.Sort.grow_empty] at h4
    exact h4
end Go.Proofs.Ytaealapgebbnlaa
