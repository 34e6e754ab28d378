/- append onto a slice that is full, whoever owns it: over any program. No condition. -/
import Derived.Test.YtgcpclbkjplipaaMem
import Derived.ArgAppend
set_option linter.unusedVariables false
namespace Go.Mem
open Go.RowKit
theorem wpList_append_full {P : Program} (w : World) {ops : Array Oper} {rest : List Oper} {o : Oper} {a : Act} {Q : Exit → Act → World → Prop}
    (hg : o.guard = none) (s x : Operand) (t : TypeId) (hop : o.op = Op.call { callee := Callee.builtin Builtin.append, args := #[s, x], argTypes := #[t, t] })
    (e : TypeId) (i : TypeInfo) (z : Value) (size bytes : Nat) (h1 : P.underlying t = some (.slice e)) (h2 : P.info? e = some i) (h3 : i.zero = some z) (h4 : i.size = size) (h5 : i.bytes = bytes) (h6 : z.cells.size = size) (h7 : 0 < size)
    (b off n : Nat) (olds : List Value) (hs : a.eval s = .slice (some ⟨b, off, none⟩) n n) (hlo : olds.length = n * size) (holds : ∀ j u, olds[j]? = some u → w.cell? ⟨b, off + j, none⟩ = some u)
    (D : Nat → Prop) (A : Option Addr) (m c : Nat) (news : List Value) (hx : a.eval x = .slice A m c) (hr : Reads w D size A m news) (h1c : ∀ u ∈ news, u.oneCell' = true)
    (b1 : n + m ≤ maxLen) (b2 : (n + m) * bytes ≤ 140737488355328)
    (hK : ∀ A' c' w', n + m ≤ c' → c' ≤ maxLen → Reads w' (fun q => q = b ∨ w.heap.size ≤ q) size A' (n + m) (olds ++ news) → Below w.heap.size w w' → wpList P ops Q rest (a.put o.dst (.slice A' (n + m) c')) w') :
    wpList P ops Q (o :: rest) a w := by
  by_cases hm : m = 0
  · subst hm
    have hn : news = [] := List.eq_nil_of_length_eq_zero (by simpa using hr.1)
    subst hn
    have hk := hK (some ⟨b, off, none⟩) n w (by omega) (by omega) ⟨by simpa using hlo, fun _ => ⟨b, off, rfl, .inl rfl, fun j u hu => holds j u (by simpa using hu)⟩⟩ (Below.refl _ _)
    rcases A with _ | ad
    · refine wpList_plain hg fun K hK' => ?_
      have hrun : (Builtin.append_ #[t, t] o.type #[.slice (some ⟨b, off, none⟩) n n, .slice none 0 c]).run P w = .ok (.slice (some ⟨b, off, none⟩) n n) w := by
        simp [Builtin.append_, run_underlying h1, sizeOf, typeInfo, h2, Builtin.lenOf, Builtin.firstCells, storeCells]
      unfold Oper.wp
      simp [execOp, hop, resolve, invoke, builtin, hs, hx, hrun, Result.andThen]
      exact hK' _ _ hk
    · refine wpList_append_arg (P := P) w hg s x t hop e i z size bytes h1 h2 h3 h4 h5 h6 h7 b off n n olds hs hlo holds ad 0 c [] hx (by simp) (by simp) (by simp) (by simp) b1 b2 (fun _ => ?_) (fun h => by omega)
      simpa [World.setCells] using hk
  · rcases A with _ | ad
    · exact absurd hr.nil_len hm
    · have hcells : ∀ j u, news[j]? = some u → w.cell? (ad.add j) = some u := by
        obtain ⟨b', off', h, _, hc⟩ := hr.2 (by omega)
        injection h with h
        subst h
        intro j u hu
        rw [Addr.add_lit]
        exact hc j u hu
      refine wpList_append_arg (P := P) w hg s x t hop e i z size bytes h1 h2 h3 h4 h5 h6 h7 b off n n olds hs hlo holds ad m c news hx hr.1 hcells h1c (fun h => by omega) b1 b2 (fun h => by omega) fun _ v' w' hown hgr => ?_
      obtain ⟨A', c', rfl, q1, q2, q3⟩ := Reads.of_own hown
      exact hK A' c' w' q1 q2 (q3.imp h7 fun q hq _ => .inr (hown.lt q hq).1) ⟨hgr.os, hgr.tape, hgr.output, hgr.size, fun k hk => hgr.block k hk (by simp)⟩
end Go.Mem
