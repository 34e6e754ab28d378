/- An argument that is a slice of structs of two ints, opened. -/
import Derived.Test.YtcmohbeibnfpaaaDoorVerOf
import Derived.Test.YtcmohbeibnfpaaaDoorLaw
import Derived.Deep.Fields
import Derived.ChangeSame
set_option linter.unusedVariables false
namespace Go.Law
open Go.Ver Go.ChangeShapes Go.WideShapes Go.ChangeAt Go.RowKit Go.Mem Go.Deep
section
variable {H : Type} {enc : TypeId × Value → H} {P : Program}
/-- one field of a struct of one-cell fields -/
theorem field_at {e : TypeId} {fs : Array Field} {W : World} {a : Addr} {i size n : Nat} {cs : List Value} {x : DataW H × List MemPlace} (he : P.underlying e = some (.struct fs)) (hone : oneCellFields P fs = true) (hfs : fs.size = size)
    (hc : W.cells? 0 (a.add (i * size)) size = some cs) (ht : DataW.trod enc P W 0 (fun _ => true) true n e cs = some x) (j : Nat) (f : Field) (hj : fs[j]? = some f) :
    ∃ v y m, W.cell? (a.add (i * size + j)) = some v ∧ DataW.trod enc P W 0 (fun _ => true) true m f.type [v] = some y := by
  obtain ⟨ys, n', hn', hy, hlen, hyl, hf⟩ := DataW.trod_struct he ht
  obtain ⟨_, hcl, hat⟩ := World.cells?_some hc
  obtain ⟨ho, hk⟩ := hone_of hone j f hj
  have hjl : j < fs.size := (Array.getElem?_eq_some_iff.1 hj).1
  have hcell := hat j (by omega)
  have hv : cs[j]? = some (cs[j]'(by omega)) := List.getElem?_eq_getElem (by omega)
  have h1 := hf j f hj
  rw [ho, hk] at h1
  have hone' : (cs.drop j).take 1 = [cs[j]'(by omega)] := by
    rw [List.drop_eq_getElem_cons (by omega)]
    rfl
  rw [hone'] at h1
  have hys : ys[j]? = some (ys[j]'(by omega)) := List.getElem?_eq_getElem (by omega)
  refine ⟨_, _, _, ?_, h1.trans hys⟩
  rw [← Go.Deep.add_add, hcell, hv]
theorem field_int {e : TypeId} {fs : Array Field} {W : World} {a : Addr} {i size n : Nat} {cs : List Value} {x : DataW H × List MemPlace} (he : P.underlying e = some (.struct fs)) (hone : oneCellFields P fs = true) (hfs : fs.size = size)
    (hc : W.cells? 0 (a.add (i * size)) size = some cs) (ht : DataW.trod enc P W 0 (fun _ => true) true n e cs = some x) (j : Nat) (hj : (fs[j]?).bind (fun f => P.underlying f.type) = some (.int .i64)) :
    ∃ z : Int, W.cell? (a.add (i * size + j)) = some (.int .i64 z) ∧ (-9223372036854775808 ≤ z ∧ z ≤ 9223372036854775807) := by
  obtain ⟨f, hf, hu⟩ := Option.bind_eq_some_iff.1 hj
  obtain ⟨v, y, m, h1, h2⟩ := field_at he hone hfs hc ht j f hf
  obtain ⟨z, e1, _, wz⟩ := DataW.trod_int hu h2
  simp at e1
  subst e1
  exact ⟨z, h1, i64_of_wf wz⟩
/-- cells by element, as a reading of structs of 'size' cells -/
theorem reads_of_rows {W : World} {a : Addr} {n size : Nat} {C : Nat → List Value} (hz : 0 < size) (hlen : ∀ i, (C i).length = size) (hcell : ∀ i, i < n → ∀ j u, (C i)[j]? = some u → W.cell? (a.add (i * size + j)) = some u) :
    Reads W Any size (some a) n ((List.range n).map C).flatten := by
  have hl : ((List.range n).map C).flatten.length = n * size := by
    have : ∀ rs : List Nat, (rs.map C).flatten.length = rs.length * size := by
      intro rs
      induction rs with
      | nil => simp
      | cons r rs ih => simp only [List.map_cons, List.flatten_cons, List.length_append, hlen, ih, List.length_cons, Nat.add_mul]; omega
    simpa using this (List.range n)
  refine ⟨hl, fun hn => ?_⟩
  have h0 := hcell 0 hn 0 ((C 0)[0]'(by rw [hlen]; exact hz)) (List.getElem?_eq_getElem (by rw [hlen]; exact hz))
  simp only [Nat.zero_mul, Nat.add_zero] at h0
  obtain ⟨x, o, rfl⟩ := add_none h0
  refine ⟨x, o, rfl, trivial, fun j u hu => ?_⟩
  have hj : j < n * size := by
    rcases Nat.lt_or_ge j (n * size) with h | h
    · exact h
    · rw [List.getElem?_eq_none (by omega)] at hu; cases hu
  have hdiv : j / size < n := Nat.div_lt_of_lt_mul (by rw [Nat.mul_comm]; exact hj)
  have hmod : j % size < size := Nat.mod_lt _ hz
  have hsplit : j / size * size + j % size = j := by rw [Nat.mul_comm]; exact Nat.div_add_mod j size
  have hat := flatten_at (size := size) (vss := (List.range n).map C) (fun c hc => by obtain ⟨i, _, rfl⟩ := List.mem_map.1 hc; exact hlen i) (k := j / size) (c := C (j / size)) (by simp [hdiv]) (j % size) hmod
  rw [hsplit, hu] at hat
  have := hcell (j / size) hdiv (j % size) u hat.symm
  rwa [hsplit, Addr.add_lit] at this

def I64' (x : Int) : Prop := -9223372036854775808 ≤ x ∧ x ≤ 9223372036854775807
/-- an argument of structs of two ints -/
theorem open_prs {t e : TypeId} {fs : Array Field} {W : World} {base : Nat} {v : Value} {d : DataW H} {p : List MemPlace} (ht : P.underlying t = some (.slice e)) (he : P.underlying e = some (.struct fs)) (hone : oneCellFields P fs = true) (hfs : fs.size = 2) (hC : P.cellsOf e = 2)
    (hf0 : (fs[0]?).bind (fun f => P.underlying f.type) = some (.int .i64)) (hf1 : (fs[1]?).bind (fun f => P.underlying f.type) = some (.int .i64))
    (hv : Value.okWide P W .any base t v) (h : DataW.Trod enc P W 0 (fun _ => true) true t v d p) :
    ∃ (A : Option Addr) (n c : Nat) (l : List (Int × Int)), v = .slice A n c ∧ n = l.length ∧ n ≤ c ∧ c ≤ maxLen ∧ Reads W Any 2 A n (prs l) ∧ ∀ x ∈ l, (I64' x.1 ∧ I64' x.2) := by
  obtain ⟨A, n, c, rfl⟩ := okWide_slice ht hv
  obtain ⟨fuel, hf⟩ := h
  rcases open_slice ht hf with ⟨hcs, _⟩ | ⟨a, len, cap, m, n', D, Pl, hcs, _, hl, hm, hmm, hx, hi⟩
  · simp [Value.cells] at hcs
    obtain ⟨rfl, rfl, rfl⟩ := hcs
    exact ⟨_, _, _, [], rfl, rfl, Nat.le_refl _, Nat.zero_le _, Reads.empty, fun x hx => by simp at hx⟩
  · simp [Value.cells] at hcs
    obtain ⟨rfl, rfl, rfl⟩ := hcs
    simp only [if_true] at hmm
    subst hmm
    rw [hC] at hi
    obtain ⟨R, hR⟩ := choose_lt (α := Int × Int) (n := n) (p := fun i r => (∀ j u, (prc r)[j]? = some u → W.cell? (a.add (i * 2 + j)) = some u) ∧ (I64' r.1 ∧ I64' r.2)) (by
      intro i hi'
      obtain ⟨cs', hc, ht'⟩ := hi i (by omega)
      obtain ⟨z0, c0, w0⟩ := field_int he hone hfs hc ht' 0 hf0
      obtain ⟨z1, c1, w1⟩ := field_int he hone hfs hc ht' 1 hf1
      refine ⟨⟨z0, z1⟩, fun j u hu => ?_, w0, w1⟩
      match j, hu with
      | 0, hu => simp [prc] at hu; subst hu; exact c0
      | 1, hu => simp [prc] at hu; subst hu; exact c1
      | j + 2, hu => simp [prc] at hu)
    refine ⟨_, _, _, (List.range n).map R, rfl, by simp, hl, hm, ?_, fun x hx => ?_⟩
    · unfold prs
      rw [List.map_map]
      exact reads_of_rows (C := fun i => prc (R i)) (by omega) (fun _ => rfl) (fun i hi' => (hR i hi').1)
    · obtain ⟨i, hi', rfl⟩ := List.mem_map.1 hx
      exact (hR i (List.mem_range.1 hi')).2
end
end Go.Law
