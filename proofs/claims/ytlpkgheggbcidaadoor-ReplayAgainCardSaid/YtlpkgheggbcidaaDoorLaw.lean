/- From a contract to a law's row: the arguments opened, the law's last step. Over any program. -/
import Derived.Test.YtlpkgheggbcidaaDoorMem
import Derived.ProofKit
import Derived.OpenShut
import Derived.ShutString
import Derived.ChangeOld
import Derived.Deep.Matrix
set_option linter.unusedVariables false
namespace Go.Law
open Go.ChangeShapes Go.WideShapes Go.ChangeAt Go.RowKit Go.Mem
open Go.ChangeMaps (open_string shut_string)

section
variable {H : Type} {enc : TypeId × Value → H} {P : Program}

/-- All arguments read behind the call as they read before. -/
theorem trodAll_stays (hl : laidOutB P = true) {W W' : World} (hb : Below W.heap.size W W') : ∀ (ts : List TypeId) (_ : ∀ t ∈ ts, P.readableRec t = true ∧ t < P.types.size) (vs : List Value) (ds : List (DataW H)) (ps : List MemPlace),
    DataW.TrodAll enc P W 0 (fun _ => true) true ts vs ds ps → DataW.TrodAll enc P W' 0 (fun b => decide (b < W.heap.size)) true ts vs ds ps
  | [], _, [], [], ps, h => h
  | t :: ts, ht, v :: vs, d :: ds, ps, h => by
    obtain ⟨p, q, h1, h2, rfl⟩ := h
    have hlt : ∀ x ∈ p, x.block < W.heap.size := by obtain ⟨m, hm⟩ := h1; exact DataW.trod_lt m _ _ _ hm
    exact ⟨p, q, Below.trod hl (ht t (by simp)).1 (ht t (by simp)).2 h1 hb hlt, trodAll_stays hl hb ts (fun t h => ht t (by simp [h])) vs ds q h2, rfl⟩
  | [], _, _ :: _, _, _, h => by simp [DataW.TrodAll] at h
  | [], _, [], _ :: _, _, h => by simp [DataW.TrodAll] at h
  | _ :: _, _, [], _, _, h => by simp [DataW.TrodAll] at h
  | _ :: _, _, _ :: _, [], _, h => by simp [DataW.TrodAll] at h

/-- The last step of a law that returns true and writes nothing that was there. -/
theorem law_post {f : Func} {s : ChangeSpec} {W W' : World} {args : Array Value} {ds gs : List (DataW H)} {before : List MemPlace} {tb : TypeId} (hl : laidOutB P = true) (htb : P.underlying tb = some .bool)
    (hts : f.params.toList.all (fun t => P.readableRec t && decide (t < P.types.size)) = true) (hrt : f.resultTypes = #[tb]) (hv : s.vars = []) (hfn : s.fn H (ds ++ gs) = { results := [.lit (.bool true)], args := ds })
    (hW : DataW.Whole enc P f.params.toList s.vars false W args.toList ds gs before) (hb : Below W.heap.size W W') : s.post enc P f false true false false W args (.bool true) W' := by
  have hW' := hW
  obtain ⟨p, q, hA, hV, rfl, hfz, hnd⟩ := hW
  rw [hv] at hV
  obtain ⟨rfl, rfl⟩ := trodVars_none hV
  refine ⟨_, _, _, [], p, [], hW', ?_, ?_, ?_, hb.frame _, fun h => by cases h⟩
  · rw [hfn, hrt]
    exact trodAll_mk1 (shut_bool htb _)
  · rw [hfn]
    exact trodAll_stays hl hb _ (fun t ht => by simpa using (List.all_eq_true.1 hts) t ht) _ _ _ hA
  · rw [hfn, hv]
    rfl

/-- a byte out of a number that fits -/
def b8 (n : Int) : UInt8 := UInt8.ofNat n.toNat
theorem b8_back {n : Int} (h : (Lit.int .u8 n).wf = true) : ((b8 n).toNat : Int) = n := by
  have hx : 0 ≤ n ∧ n ≤ 255 := by simpa [Lit.wf, IntKind.min, IntKind.max, IntKind.signed, IntKind.bits] using h
  simp [b8]
  omega
theorem i64_of_wf {n : Int} (h : (Lit.int .i64 n).wf = true) : -9223372036854775808 ≤ n ∧ n ≤ 9223372036854775807 := by
  simpa [Lit.wf, IntKind.min, IntKind.max, IntKind.signed, IntKind.bits] using h
theorem add_none {b : Addr} {w : World} {v : Value} (h : w.cell? (b.add 0) = some v) : ∃ x o, b = ⟨x, o, none⟩ := by
  obtain ⟨x, o, s⟩ := b
  have hs : s = none := by simpa [Addr.add] using World.cell?_spot h
  subst hs
  exact ⟨x, o, rfl⟩

/-- cells by index, as a reading -/
theorem reads_of_ints {w : World} {a : Addr} {len : Nat} {zs : List Int} {k : IntKind} (hz : len ≤ zs.length) (hcell : ∀ i, i < zs.length → w.cell? (a.add i) = some (.int k (zs.getD i 0))) :
    Reads w Any 1 (some a) len ((zs.take len).map (Value.int k)) := by
  refine ⟨by simp; omega, fun hn => ?_⟩
  have h0 := hcell 0 (by omega)
  obtain ⟨x, o, rfl⟩ := add_none h0
  refine ⟨x, o, rfl, trivial, fun j u hu => ?_⟩
  have hj : j < len := by
    rcases Nat.lt_or_ge j len with h | h
    · exact h
    · rw [List.getElem?_eq_none (by simp; omega)] at hu; cases hu
  have := hcell j (by omega)
  rw [Addr.add_lit] at this
  rw [this, ← hu]
  simp [hj, List.getD, List.getElem?_eq_getElem (show j < zs.length by omega)]
theorem u8s_of_ints {zs : List Int} (h : ∀ n ∈ zs, (Lit.int .u8 n).wf = true) : zs.map (Value.int .u8) = u8s (zs.map b8) := by
  simp only [u8s, List.map_map]
  apply List.map_congr_left
  intro n hn
  simp [b8_back (h n hn)]

/-- an argument []byte -/
theorem open_bytes {t e : TypeId} {W : World} {base : Nat} {v : Value} {d : DataW H} {p : List MemPlace} (ht : P.underlying t = some (.slice e)) (he : P.underlying e = some (.int .u8)) (hc : P.cellsOf e = 1)
    (hv : Value.okWide P W .any base t v) (h : DataW.Trod enc P W 0 (fun _ => true) true t v d p) : ∃ A n c bs, v = .slice A n c ∧ n ≤ c ∧ c ≤ maxLen ∧ Reads W Any 1 A n (u8s bs) := by
  obtain ⟨A, n, c, rfl⟩ := okWide_slice ht hv
  obtain ⟨fuel, hf⟩ := h
  rcases open_ints ht he hc hf with ⟨hcs, _⟩ | ⟨x, l, c', zs, hcs, _, hl, hm, hz, _, hcell, hwz⟩
  · simp [Value.cells] at hcs
    obtain ⟨rfl, rfl, rfl⟩ := hcs
    exact ⟨_, _, _, [], rfl, Nat.le_refl _, Nat.zero_le _, Reads.empty⟩
  · simp [Value.cells] at hcs
    obtain ⟨rfl, rfl, rfl⟩ := hcs
    simp only [if_true] at hz
    have h1 := reads_of_ints (len := n) (by omega) hcell
    rw [u8s_of_ints (fun n hn => hwz n (List.mem_of_mem_take hn))] at h1
    exact ⟨_, _, _, _, rfl, hl, hm, h1⟩

/-- an argument [][]byte -/
theorem open_rows {t e q : TypeId} {W : World} {base : Nat} {v : Value} {d : DataW H} {p : List MemPlace} (ht : P.underlying t = some (.slice e)) (he : P.underlying e = some (.slice q)) (hq : P.underlying q = some (.int .u8)) (ce : P.cellsOf e = 1) (cq : P.cellsOf q = 1)
    (hv : Value.okWide P W .any base t v) (h : DataW.Trod enc P W 0 (fun _ => true) true t v d p) :
    ∃ A n c vss l, v = .slice A n c ∧ n = l.length ∧ n ≤ c ∧ c ≤ maxLen ∧ Reads W Any 1 A n vss.flatten ∧ All2 (BytesCell W Any) vss l := by
  obtain ⟨A, n, c, rfl⟩ := okWide_slice ht hv
  obtain ⟨fuel, hf⟩ := h
  rcases Go.Deep.open_int_rows ht he hq ce cq hf with ⟨hcs, _⟩ | ⟨x, l, c', AA, L, C, Z, hcs, _, hl, hm, _, hrow⟩
  · simp [Value.cells] at hcs
    obtain ⟨rfl, rfl, rfl⟩ := hcs
    exact ⟨_, _, _, [], [], rfl, rfl, Nat.le_refl _, Nat.zero_le _, Reads.empty, All2.nil⟩
  · simp [Value.cells] at hcs
    obtain ⟨rfl, rfl, rfl⟩ := hcs
    have hflat : ((List.range n).map fun r => [Value.slice (AA r) (L r) (C r)]).flatten = (List.range n).map fun r => Value.slice (AA r) (L r) (C r) := by
      generalize List.range n = rs
      induction rs with
      | nil => rfl
      | cons a r ih => simp [ih]
    refine ⟨_, _, _, (List.range n).map fun r => [Value.slice (AA r) (L r) (C r)], (List.range n).map fun r => ((Z r).take (L r)).map b8, rfl, by simp, hl, hm, ?_, by simp, fun i cs bs h1 h2 => ?_⟩
    · rw [hflat]
      refine ⟨by simp, fun hn => ?_⟩
      obtain ⟨b, o, rfl⟩ := add_none (hrow 0 (by omega)).1
      refine ⟨b, o, rfl, trivial, fun j u hu => ?_⟩
      have hj : j < n := by
        rcases Nat.lt_or_ge j n with h | h
        · exact h
        · rw [List.getElem?_eq_none (by simp; omega)] at hu; cases hu
      have := (hrow j (by omega)).1
      rw [Addr.add_lit] at this
      rw [this, ← hu]
      simp [hj]
    · have hi : i < n := by
        rcases Nat.lt_or_ge i n with h | h
        · exact h
        · rw [List.getElem?_eq_none (by simp; omega)] at h1; cases h1
      simp [hi] at h1 h2
      subst h1 h2
      obtain ⟨_, r1, r2, r3, r4, r5, r6⟩ := hrow i (by omega)
      refine ⟨_, rfl, _, _, _, rfl, r1, r2, ?_⟩
      rw [← List.map_take, ← u8s_of_ints (fun m hm => r4 m (List.mem_of_mem_take hm))]
      cases hA : AA i with
      | none =>
        have hc0 := r5 hA
        have hl0 : L i = 0 := by omega
        rw [hl0]
        exact Reads.empty
      | some a' => exact reads_of_ints (by omega) (fun c hc => (r6 a' hA).2 c (by omega))
end
end Go.Law
