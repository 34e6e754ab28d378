/- An argument that is a slice of raw ones, opened. · The walk of StoreTorn: it returns true. -/
import Derived.Test.YtgcpclbkjplipaaPart51
import Derived.Test.YtgcpclbkjplipaaPart4
import Derived.Deep.Fields
import Derived.ChangeSame
set_option linter.unusedVariables false
namespace Go.Law
open Go.ChangeShapes Go.WideShapes Go.ChangeAt Go.RowKit Go.Mem Go.Val Go.Deep
section
variable {H : Type} {enc : TypeId × Value → H} {P : Program}
/-- one field of a struct of one-cell fields -/
theorem field_at {e : TypeId} {fs : Array Field} {W : World} {a : Addr} {i size n : Nat} {cs : List Value} {x : DataW H × List MemPlace} (he : P.underlying e = some (.struct fs)) (hone : oneCellFields P fs = true) (hfs : fs.size = size)
    (hc : W.cells? 0 (a.add (i * size)) size = some cs) (ht : DataW.trod enc P W 0 (fun _ => true) true n e cs = some x) (j : Nat) (f : Field) (hj : fs[j]? = some f) :
    ∃ v y m, W.cell? (a.add (i * size + j)) = some v ∧ DataW.trod enc P W 0 (fun _ => true) true m f.type [v] = some y := by
  obtain ⟨ys, n', hn', hy, hlen, hyl, hf⟩ := DataW.trod_struct he ht
  obtain ⟨_, hcl, hat⟩ := World.cells?_some hc
  obtain ⟨ho, hk⟩ := hone_of hone j f hj
  have hjl : j < fs.size := (Array.getElem?_eq_some_iff.1 hj).1
  have hcell := hat j (by omega)
  have hv : cs[j]? = some (cs[j]'(by omega)) := List.getElem?_eq_getElem (by omega)
  have h1 := hf j f hj
  rw [ho, hk] at h1
  have hone' : (cs.drop j).take 1 = [cs[j]'(by omega)] := by
    rw [List.drop_eq_getElem_cons (by omega)]
    rfl
  rw [hone'] at h1
  have hys : ys[j]? = some (ys[j]'(by omega)) := List.getElem?_eq_getElem (by omega)
  refine ⟨_, _, _, ?_, h1.trans hys⟩
  rw [← Go.Deep.add_add, hcell, hv]
theorem field_int {e : TypeId} {fs : Array Field} {W : World} {a : Addr} {i size n : Nat} {cs : List Value} {x : DataW H × List MemPlace} (he : P.underlying e = some (.struct fs)) (hone : oneCellFields P fs = true) (hfs : fs.size = size)
    (hc : W.cells? 0 (a.add (i * size)) size = some cs) (ht : DataW.trod enc P W 0 (fun _ => true) true n e cs = some x) (j : Nat) (hj : (fs[j]?).bind (fun f => P.underlying f.type) = some (.int .i64)) :
    ∃ z : Int, W.cell? (a.add (i * size + j)) = some (.int .i64 z) ∧ Fits64 z := by
  obtain ⟨f, hf, hu⟩ := Option.bind_eq_some_iff.1 hj
  obtain ⟨v, y, m, h1, h2⟩ := field_at he hone hfs hc ht j f hf
  obtain ⟨z, e1, _, wz⟩ := DataW.trod_int hu h2
  simp at e1
  subst e1
  exact ⟨z, h1, i64_of_wf wz⟩
theorem field_str {e : TypeId} {fs : Array Field} {W : World} {a : Addr} {i size n : Nat} {cs : List Value} {x : DataW H × List MemPlace} (he : P.underlying e = some (.struct fs)) (hone : oneCellFields P fs = true) (hfs : fs.size = size)
    (hc : W.cells? 0 (a.add (i * size)) size = some cs) (ht : DataW.trod enc P W 0 (fun _ => true) true n e cs = some x) (j : Nat) (hj : (fs[j]?).bind (fun f => P.underlying f.type) = some .string) :
    ∃ s : ByteArray, W.cell? (a.add (i * size + j)) = some (.string s) ∧ s.size ≤ maxLen := by
  obtain ⟨f, hf, hu⟩ := Option.bind_eq_some_iff.1 hj
  obtain ⟨v, y, m, h1, h2⟩ := field_at he hone hfs hc ht j f hf
  obtain ⟨s, e1, _, ws⟩ := DataW.trod_string hu h2
  simp at e1
  subst e1
  exact ⟨s, h1, ws⟩
instance : Inhabited Raw := ⟨⟨0, 0, 0, ⟨#[]⟩⟩⟩
/-- cells by element, as a reading of structs of 'size' cells -/
theorem reads_of_rows {W : World} {a : Addr} {n size : Nat} {C : Nat → List Value} (hz : 0 < size) (hlen : ∀ i, (C i).length = size) (hcell : ∀ i, i < n → ∀ j u, (C i)[j]? = some u → W.cell? (a.add (i * size + j)) = some u) :
    Reads W Any size (some a) n ((List.range n).map C).flatten := by
  have hl : ((List.range n).map C).flatten.length = n * size := by
    have : ∀ rs : List Nat, (rs.map C).flatten.length = rs.length * size := by
      intro rs
      induction rs with
      | nil => simp
      | cons r rs ih => simp only [List.map_cons, List.flatten_cons, List.length_append, hlen, ih, List.length_cons, Nat.add_mul]; omega
    simpa using this (List.range n)
  refine ⟨hl, fun hn => ?_⟩
  have h0 := hcell 0 hn 0 ((C 0)[0]'(by rw [hlen]; exact hz)) (List.getElem?_eq_getElem (by rw [hlen]; exact hz))
  simp only [Nat.zero_mul, Nat.add_zero] at h0
  obtain ⟨x, o, rfl⟩ := add_none h0
  refine ⟨x, o, rfl, trivial, fun j u hu => ?_⟩
  have hj : j < n * size := by
    rcases Nat.lt_or_ge j (n * size) with h | h
    · exact h
    · rw [List.getElem?_eq_none (by omega)] at hu; cases hu
  have hdiv : j / size < n := Nat.div_lt_of_lt_mul (by rw [Nat.mul_comm]; exact hj)
  have hmod : j % size < size := Nat.mod_lt _ hz
  have hsplit : j / size * size + j % size = j := by rw [Nat.mul_comm]; exact Nat.div_add_mod j size
  have hat := flatten_at (size := size) (vss := (List.range n).map C) (fun c hc => by obtain ⟨i, _, rfl⟩ := List.mem_map.1 hc; exact hlen i) (k := j / size) (c := C (j / size)) (by simp [hdiv]) (j % size) hmod
  rw [hsplit, hu] at hat
  have := hcell (j / size) hdiv (j % size) u hat.symm
  rwa [hsplit, Addr.add_lit] at this
/-- an argument []Raw: four cells each -/
theorem open_raws {t e : TypeId} {fs : Array Field} {W : World} {base : Nat} {v : Value} {d : DataW H} {p : List MemPlace} (ht : P.underlying t = some (.slice e)) (he : P.underlying e = some (.struct fs)) (hone : oneCellFields P fs = true) (hfs : fs.size = 4) (hC : P.cellsOf e = 4)
    (hf0 : (fs[0]?).bind (fun f => P.underlying f.type) = some (.int .i64)) (hf1 : (fs[1]?).bind (fun f => P.underlying f.type) = some (.int .i64)) (hf2 : (fs[2]?).bind (fun f => P.underlying f.type) = some (.int .i64)) (hf3 : (fs[3]?).bind (fun f => P.underlying f.type) = some .string)
    (hv : Value.okWide P W .any base t v) (h : DataW.Trod enc P W 0 (fun _ => true) true t v d p) :
    ∃ A n c rss l, v = .slice A n c ∧ n = l.length ∧ n ≤ c ∧ c ≤ maxLen ∧ Reads W Any 4 A n rss.flatten ∧ All2 (RawCells W Any) rss l := by
  obtain ⟨A, n, c, rfl⟩ := okWide_slice ht hv
  obtain ⟨fuel, hf⟩ := h
  rcases open_slice ht hf with ⟨hcs, _⟩ | ⟨a, len, cap, m, n', D, Pl, hcs, _, hl, hm, hmm, hx, hi⟩
  · simp [Value.cells] at hcs
    obtain ⟨rfl, rfl, rfl⟩ := hcs
    exact ⟨_, _, _, [], [], rfl, rfl, Nat.le_refl _, Nat.zero_le _, Reads.empty, All2.nil⟩
  · simp [Value.cells] at hcs
    obtain ⟨rfl, rfl, rfl⟩ := hcs
    simp only [if_true] at hmm
    subst hmm
    rw [hC] at hi
    obtain ⟨R, hR⟩ := choose_lt (α := Raw) (n := n) (p := fun i r => (∀ j u, [Value.int .i64 r.kind, .int .i64 r.a, .int .i64 r.b, .string r.text][j]? = some u → W.cell? (a.add (i * 4 + j)) = some u) ∧ Fits64 r.kind ∧ Fits64 r.a ∧ Fits64 r.b ∧ r.text.size ≤ maxLen) (by
      intro i hi'
      obtain ⟨cs', hc, ht'⟩ := hi i (by omega)
      obtain ⟨z0, c0, w0⟩ := field_int he hone hfs hc ht' 0 hf0
      obtain ⟨z1, c1, w1⟩ := field_int he hone hfs hc ht' 1 hf1
      obtain ⟨z2, c2, w2⟩ := field_int he hone hfs hc ht' 2 hf2
      obtain ⟨s3, c3, w3⟩ := field_str he hone hfs hc ht' 3 hf3
      refine ⟨⟨z0, z1, z2, s3⟩, fun j u hu => ?_, w0, w1, w2, w3⟩
      match j, hu with
      | 0, hu => simp at hu; subst hu; exact c0
      | 1, hu => simp at hu; subst hu; exact c1
      | 2, hu => simp at hu; subst hu; exact c2
      | 3, hu => simp at hu; subst hu; exact c3
      | j + 4, hu => simp at hu)
    refine ⟨_, _, _, (List.range n).map (fun i => [Value.int .i64 (R i).kind, .int .i64 (R i).a, .int .i64 (R i).b, .string (R i).text]), (List.range n).map R, rfl, by simp, hl, hm, ?_, by simp, fun i cs r h1 h2 => ?_⟩
    · exact reads_of_rows (C := fun i => [Value.int .i64 (R i).kind, .int .i64 (R i).a, .int .i64 (R i).b, .string (R i).text]) (by omega) (fun _ => rfl) (fun i hi' => (hR i hi').1)
    · have hi' : i < n := by
        rcases Nat.lt_or_ge i n with h | h
        · exact h
        · rw [List.getElem?_eq_none (by simp; omega)] at h1; cases h1
      simp [hi'] at h1 h2
      subst h1 h2
      exact ⟨rfl, (hR i hi').2⟩
end
end Go.Law
set_option linter.unusedVariables false
namespace Go.Proofs.Ytgcpclbkjplipaa
open Go.RowKit Go.Mem Go.Val Go.Chunk

structure TornSt (l : List Raw) (B : Nat) (w wr : World) (k : Nat) (Al : Option Addr) (nl cl : Nat) (a e : Value) : Prop where
  all : ∃ vss, wr.ownsRow B 85 3 a k vss.flatten ∧ All2 (SnCells 41 wr (Off B a.ownBlock e.ownBlock)) vss (tornS l k)
  ends : wr.ownsRow B 3 1 e (k + 1) (endsV (tornS l k))
  log : Reads wr (Off B a.ownBlock e.ownBlock) 1 Al nl (u8s (logE (tornS l k)))
  nc : nl ≤ cl
  cm : cl ≤ maxLen
  ne : ∀ b, a.ownBlock = some b → e.ownBlock ≠ some b
  bel : Below B w wr
  nice : ∀ s ∈ tornS l k, NiceSn s
theorem TornSt.nl_eq {l : List Raw} {B : Nat} {w wr : World} {k : Nat} {Al : Option Addr} {nl cl : Nat} {a e : Value} (h : TornSt l B w wr k Al nl cl a e) : nl = (logE (tornS l k)).length := by
  have := h.log.len
  rwa [u8s_length] at this
theorem TornSt.small {l : List Raw} {B : Nat} {w wr : World} {k : Nat} {Al : Option Addr} {nl cl : Nat} {a e : Value} (h : TornSt l B w wr k Al nl cl a e) (hk : k ≤ 4) : nl ≤ 100000000 := by
  rw [h.nl_eq]
  have := logE_max _ h.nice
  rw [tornS_len] at this
  omega
theorem TornSt.forms {l : List Raw} {B : Nat} {w wr : World} {k : Nat} {Al : Option Addr} {nl cl : Nat} {a e : Value} (h : TornSt l B w wr k Al nl cl a e) : ∃ Aa ca Ae ce, a = .slice Aa k ca ∧ e = .slice Ae (k + 1) ce := by
  obtain ⟨vss, h1, _⟩ := h.all
  obtain ⟨Aa, ca, e1, _⟩ := own_form h1
  obtain ⟨Ae, ce, e2, _⟩ := own_form h.ends
  exact ⟨Aa, ca, Ae, ce, e1, e2⟩
/-- the two rows grow, the log is another one -/
theorem TornSt.next {l : List Raw} {B : Nat} {w wr w3 w4 w5 : World} {k : Nat} {Al A3 : Option Addr} {nl cl n3 c3 : Nat} {a e a' e' : Value} {o1 o2 : Obj} {cs : List Value} (h : TornSt l B w wr k Al nl cl a e)
    (hB : B ≤ wr.heap.size) (hb3 : Below wr.heap.size wr w3) (hv : SnCells 41 w3 (fun b => wr.heap.size ≤ b) cs (snF (l.drop k) ((k : Int) * 13))) (hn : NiceSn (snF (l.drop k) ((k : Int) * 13)))
    (hlog : Reads w3 (fun b => wr.heap.size ≤ b) 1 A3 n3 (u8s (logE (tornS l k) ++ partE (snapE 41 (snF (l.drop k) ((k : Int) * 13)))))) (hnc : n3 ≤ c3) (hcm : c3 ≤ maxLen)
    (vss : List (List Value)) (ha : All2 (SnCells 41 wr (Off B a.ownBlock e.ownBlock)) vss (tornS l k))
    (ho : w4.ownsRow B 85 3 a' (k + 1) (vss.flatten ++ cs)) (hg4 : (w3.alloc o1).grownBy w4 a.ownBlock) (hat4 : a'.ownBlock = a.ownBlock ∨ a'.ownBlock = some (w3.alloc o1).heap.size)
    (he : w5.ownsRow B 3 1 e' (k + 1 + 1) (endsV (tornS l k) ++ [.int .i64 (n3 : Nat)])) (hg5 : (w4.alloc o2).grownBy w5 e.ownBlock) (hat5 : e'.ownBlock = e.ownBlock ∨ e'.ownBlock = some (w4.alloc o2).heap.size) :
    TornSt l B w w5 (k + 1) A3 n3 c3 a' e' := by
  have s3 := hb3.size
  have s4 := hg4.size
  have s5 := hg5.size
  simp at s4 s5
  obtain ⟨vss0, hoa, _⟩ := h.all
  have la := hoa.lt
  have le := h.ends.lt
  have xa : a'.ownBlock = a.ownBlock ∨ ∃ j, a'.ownBlock = some j ∧ w3.heap.size ≤ j := by
    rcases hat4 with h | h
    · exact .inl h
    · exact .inr ⟨_, h, by simp⟩
  have xe : e'.ownBlock = e.ownBlock ∨ ∃ j, e'.ownBlock = some j ∧ w3.heap.size ≤ j := by
    rcases hat5 with h | h
    · exact .inl h
    · exact .inr ⟨_, h, by simp; omega⟩
  have k3 : Same (Off B a.ownBlock e.ownBlock) w3 w5 := by
    refine ((Same.alloc _ w3 o1).trans (by simp) (Off.left hg4)).trans (by omega) ?_
    exact (Same.alloc _ w4 o2).trans (by simp) (Off.right hg5)
  have up : ∀ b, wr.heap.size ≤ b → b < w3.heap.size → Off B a.ownBlock e.ownBlock b := fun b hb _ => ⟨by omega, fun e => by have := (la b e).2; omega, fun e => by have := (le b e).2; omega⟩
  have wide := Off.to (B := B) (n := w3.heap.size) xa xe
  have each : ∀ x y, SnCells 41 wr (Off B a.ownBlock e.ownBlock) x y → SnCells 41 w5 (Off B a'.ownBlock e'.ownBlock) x y := by
    intro x y hxy
    have h1 := (SnCells.stable 41).imp hxy (D' := fun b => Off B a.ownBlock e.ownBlock b ∧ b < w3.heap.size) fun b hb hl => ⟨hb, by omega⟩
    exact (SnCells.stable 41).imp ((SnCells.stable 41).keep ((SnCells.stable 41).keep h1 (Same.any hb3)) (fun b hb hl => k3 b hb.1 hl)) fun b hb _ => wide b hb.1 hb.2
  have new : ∀ x y, SnCells 41 w3 (fun b => wr.heap.size ≤ b) x y → SnCells 41 w5 (Off B a'.ownBlock e'.ownBlock) x y := by
    intro x y hxy
    have h1 := (SnCells.stable 41).imp hxy (D' := fun b => Off B a.ownBlock e.ownBlock b ∧ b < w3.heap.size) fun b hb hl => ⟨up b hb hl, hl⟩
    exact (SnCells.stable 41).imp ((SnCells.stable 41).keep h1 (fun b hb hl => k3 b hb.1 hl)) fun b hb _ => wide b hb.1 hb.2
  have elog : logE (tornS l (k + 1)) = logE (tornS l k) ++ partE (snapE 41 (snF (l.drop k) ((k : Int) * 13))) := by rw [tornS_next, logE_snoc]
  have en3 : n3 = (logE (tornS l (k + 1))).length := by
    have := hlog.len
    rw [u8s_length] at this
    rw [elog]
    exact this
  refine ⟨⟨vss ++ [cs], ?_, ?_⟩, ?_, ?_, hnc, hcm, ?_, ?_, ?_⟩
  · have h1 : w5.ownsRow B 85 3 a' (k + 1) (vss.flatten ++ cs) := by
      refine (ho.alloc o2).kept hg5 ?_
      rcases hat4 with h4 | h4
      · rw [h4]
        cases hab : a.ownBlock with
        | none => exact .inl rfl
        | some b => exact .inr fun e => h.ne b hab e.symm
      · exact .inr fun e => by rw [h4] at e; have := (le _ e.symm).2; simp at this; omega
    simpa using h1
  · rw [tornS_next]
    exact (ha.imp each).snoc (new _ _ hv)
  · rw [tornS_next, endsV_snoc, ← tornS_next, ← en3]
    exact he
  · rw [elog]
    have h1 := hlog.imp (by omega) (D' := fun b => Off B a.ownBlock e.ownBlock b ∧ b < w3.heap.size) fun b hb hl => ⟨up b hb hl, hl⟩
    exact (h1.keep (fun b hb hl => k3 b hb.1 hl)).imp (by omega) fun b hb _ => wide b hb.1 hb.2
  · intro b hb e
    rcases hat4 with h4 | h4 <;> rcases hat5 with h5 | h5
    · rw [h4] at hb; rw [h5] at e; exact h.ne b hb e
    · rw [h4] at hb; rw [h5] at e; injection e with e; have := (la b hb).2; simp at e; omega
    · rw [h4] at hb; rw [h5] at e; injection hb with hb; have := (le b e).2; simp at hb; omega
    · rw [h4] at hb; rw [h5] at e; injection hb with hb; injection e with e; simp at hb e; omega
  · have h3 : Below B w w3 := h.bel.trans (hb3.mono hB)
    have h4 := (h3.alloc (by omega) o1).grown hg4 (by simp; omega) fun j hj => (la j hj).1
    exact (h4.alloc (by omega) o2).grown hg5 (by simp; omega) fun j hj => (le j hj).1
  · rw [tornS_next]
    intro s hs
    rcases List.mem_append.1 hs with hs | hs
    · exact h.nice s hs
    · simp at hs
      rw [hs]
      exact hn
end Go.Proofs.Ytgcpclbkjplipaa
