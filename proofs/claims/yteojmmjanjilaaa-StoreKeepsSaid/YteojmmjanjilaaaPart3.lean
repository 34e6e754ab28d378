/- Words for values in memory: raw numbers and texts, values; what valueOf makes of raw ones. · An argument that is a slice of raw ones, opened. · Plain laws of cutting bytes into pieces. No condition. -/
import Derived.Test.YteojmmjanjilaaaPart2
import Derived.Deep.Fields
import Derived.ChangeSame
import Derived.Test.YteojmmjanjilaaaMem
set_option linter.unusedVariables false
namespace Go.Val
open Go.RowKit Go.Mem

def restN (n many : Int) : Int := if n < 0 then (-(n + 1)) % many else n % many

structure Raw where
  kind : Int
  a : Int
  b : Int
  text : ByteArray

def Fits64 (n : Int) : Prop := -9223372036854775808 ≤ n ∧ n ≤ 9223372036854775807
/-- the four cells of a raw one -/
def RawCells (w : World) (D : Nat → Prop) (cs : List Value) (r : Raw) : Prop :=
  cs = [.int .i64 r.kind, .int .i64 r.a, .int .i64 r.b, .string r.text] ∧ Fits64 r.kind ∧ Fits64 r.a ∧ Fits64 r.b ∧ r.text.size ≤ maxLen
theorem RawCells.stable : Stable 4 RawCells where
  keep := fun h _ => h
  imp := fun h _ => h
  len := fun h => by rw [h.1]; rfl
  one := fun h u hu => by rw [h.1] at hu; simp at hu; rcases hu with rfl | rfl | rfl | rfl <;> rfl

/-- the four cells of a value of at most a depth -/
def VCells : Nat → World → (Nat → Prop) → List Value → V → Prop
  | 0, _, _, _, _ => False
  | d + 1, w, D, cs, .mk k n t a => ∃ A c vss, cs = [.int .i64 k, .int .i64 n, .string t, .slice A a.length c] ∧ (0 ≤ k ∧ k ≤ 255) ∧ Fits64 n ∧ t.size ≤ 4611686018427387904 ∧ a.length ≤ 4194304 ∧ a.length ≤ c ∧ c ≤ maxLen ∧
      Reads w D 4 A a.length vss.flatten ∧ All2 (VCells d w D) vss a
theorem VCells.keep : ∀ {d : Nat} {w w' : World} {D : Nat → Prop} {cs : List Value} {v : V}, VCells d w D cs v → Same D w w' → VCells d w' D cs v
  | 0, _, _, _, _, _, h, _ => h
  | d + 1, w, w', D, cs, .mk k n t a, h, hk => by
    obtain ⟨A, c, vss, e, h1, h2, h3, h4, h5, h6, hr, ha⟩ := h
    exact ⟨A, c, vss, e, h1, h2, h3, h4, h5, h6, hr.keep hk, ha.imp fun x y hxy => hxy.keep hk⟩
theorem VCells.imp : ∀ {d : Nat} {w : World} {D D' : Nat → Prop} {cs : List Value} {v : V}, VCells d w D cs v → (∀ b, D b → b < w.heap.size → D' b) → VCells d w D' cs v
  | 0, _, _, _, _, _, h, _ => h
  | d + 1, w, D, D', cs, .mk k n t a, h, hk => by
    obtain ⟨A, c, vss, e, h1, h2, h3, h4, h5, h6, hr, ha⟩ := h
    exact ⟨A, c, vss, e, h1, h2, h3, h4, h5, h6, hr.imp (by omega) hk, ha.imp fun x y hxy => hxy.imp hk⟩
theorem VCells.form {d : Nat} {w : World} {D : Nat → Prop} {cs : List Value} {v : V} (h : VCells d w D cs v) : ∃ A c, cs = [.int .i64 v.kind, .int .i64 v.num, .string v.text, .slice A v.args.length c] := by
  cases d with
  | zero => exact h.elim
  | succ d =>
    obtain ⟨k, n, t, a⟩ := v
    obtain ⟨A, c, vss, e, _⟩ := h
    exact ⟨A, c, e⟩
theorem VCells.stable (d : Nat) : Stable 4 (VCells d) where
  keep := fun h hk => h.keep hk
  imp := fun h hk => h.imp hk
  len := fun h => by obtain ⟨A, c, e⟩ := h.form; rw [e]; rfl
  one := fun h u hu => by obtain ⟨A, c, e⟩ := h.form; rw [e] at hu; simp at hu; rcases hu with rfl | rfl | rfl | rfl <;> rfl
theorem VCells.ok : ∀ {d : Nat} {w : World} {D : Nat → Prop} {cs : List Value} {v : V}, VCells d w D cs v → okV d v
  | 0, _, _, _, _, h => h
  | d + 1, w, D, cs, .mk k n t a, h => by
    obtain ⟨A, c, vss, e, h1, h2, h3, h4, h5, h6, hr, ha⟩ := h
    refine ⟨h1, h2, by omega, by omega, fun x hx => ?_⟩
    obtain ⟨i, hi, rfl⟩ := List.mem_iff_getElem.1 hx
    obtain ⟨cs', _, hc⟩ := ha.at_ hi
    exact hc.ok
theorem VCells.more : ∀ {d : Nat} {w : World} {D : Nat → Prop} {cs : List Value} {v : V}, VCells d w D cs v → VCells (d + 1) w D cs v
  | 0, _, _, _, _, h => h.elim
  | d + 1, w, D, cs, .mk k n t a, h => by
    obtain ⟨A, c, vss, e, h1, h2, h3, h4, h5, h6, hr, ha⟩ := h
    exact ⟨A, c, vss, e, h1, h2, h3, h4, h5, h6, hr, ha.imp fun x y hxy => hxy.more⟩
theorem VCells.le {d d' : Nat} (h : d ≤ d') {w : World} {D : Nat → Prop} {cs : List Value} {v : V} (hv : VCells d w D cs v) : VCells d' w D cs v := by
  induction h with
  | refl => exact hv
  | step _ ih => exact ih.more

/-! ### What valueOf makes of raw ones -/
def cutText (s : ByteArray) : ByteArray := s.extract 0 (min s.size 20)
def unitV : V := .mk 1 0 ⟨#[]⟩ []
/-- number, text, how many follow; of a kind -/
def headF (k : Int) (r : Raw) : Int × ByteArray × Nat :=
  if k = 2 ∨ k = 6 then (r.a, ⟨#[]⟩, 0)
  else if k = 3 then (restN r.a 2, ⟨#[]⟩, 0)
  else if k = 4 then (0, cutText r.text, 0)
  else if k = 5 then (0, ⟨#[77]⟩ ++ cutText r.text, (restN r.a 4).toNat)
  else if k = 7 then (r.a, cutText r.text, (restN r.b 3).toNat)
  else if k = 8 then (0, ⟨#[]⟩, (restN r.a 2).toNat)
  else (0, ⟨#[]⟩, 0)
def manyF (f : Nat → V × Nat) : Nat → Nat → List V × Nat
  | 0, at_ => ([], at_)
  | n + 1, at_ => ((manyF f n at_).1 ++ [(f (manyF f n at_).2).1], (f (manyF f n at_).2).2)
def nextF (l : List Raw) : Nat → Nat → V × Nat
  | 0, at_ => (unitV, at_)
  | d + 1, at_ => match (l.take 60)[at_]? with
    | none => (unitV, at_)
    | some r => (.mk (1 + restN r.kind 8) (headF (1 + restN r.kind 8) r).1 (headF (1 + restN r.kind 8) r).2.1 (manyF (nextF l d) (headF (1 + restN r.kind 8) r).2.2 (at_ + 1)).1, (manyF (nextF l d) (headF (1 + restN r.kind 8) r).2.2 (at_ + 1)).2)
theorem manyF_len (f : Nat → V × Nat) (n at_ : Nat) : (manyF f n at_).1.length = n := by
  induction n with
  | zero => rfl
  | succ n ih => simp [manyF, ih]
theorem manyF_le {f : Nat → V × Nat} {B : Nat} (hf : ∀ a, a ≤ B → (f a).2 ≤ B) (n at_ : Nat) (h : at_ ≤ B) : (manyF f n at_).2 ≤ B := by
  induction n with
  | zero => exact h
  | succ n ih => exact hf _ ih
theorem nextF_le (l : List Raw) : ∀ (d at_ : Nat), at_ ≤ 60 → (nextF l d at_).2 ≤ 60
  | 0, at_, h => h
  | d + 1, at_, h => by
    unfold nextF
    split
    · exact h
    · rename_i r hr
      have hlt : at_ < 60 := by
        have := (List.getElem?_eq_some_iff.1 hr).1
        simp at this
        omega
      exact manyF_le (fun a ha => nextF_le l d a ha) _ _ (by omega)
/-- the value of raw ones -/
def valF (l : List Raw) : V := (nextF l 20 0).1
end Go.Val
set_option linter.unusedVariables false
namespace Go.Law
open Go.ChangeShapes Go.WideShapes Go.ChangeAt Go.RowKit Go.Mem Go.Val Go.Deep
section
variable {H : Type} {enc : TypeId × Value → H} {P : Program}
/-- one field of a struct of one-cell fields -/
theorem field_at {e : TypeId} {fs : Array Field} {W : World} {a : Addr} {i size n : Nat} {cs : List Value} {x : DataW H × List MemPlace} (he : P.underlying e = some (.struct fs)) (hone : oneCellFields P fs = true) (hfs : fs.size = size)
    (hc : W.cells? 0 (a.add (i * size)) size = some cs) (ht : DataW.trod enc P W 0 (fun _ => true) true n e cs = some x) (j : Nat) (f : Field) (hj : fs[j]? = some f) :
    ∃ v y m, W.cell? (a.add (i * size + j)) = some v ∧ DataW.trod enc P W 0 (fun _ => true) true m f.type [v] = some y := by
  obtain ⟨ys, n', hn', hy, hlen, hyl, hf⟩ := DataW.trod_struct he ht
  obtain ⟨_, hcl, hat⟩ := World.cells?_some hc
  obtain ⟨ho, hk⟩ := hone_of hone j f hj
  have hjl : j < fs.size := (Array.getElem?_eq_some_iff.1 hj).1
  have hcell := hat j (by omega)
  have hv : cs[j]? = some (cs[j]'(by omega)) := List.getElem?_eq_getElem (by omega)
  have h1 := hf j f hj
  rw [ho, hk] at h1
  have hone' : (cs.drop j).take 1 = [cs[j]'(by omega)] := by
    rw [List.drop_eq_getElem_cons (by omega)]
    rfl
  rw [hone'] at h1
  have hys : ys[j]? = some (ys[j]'(by omega)) := List.getElem?_eq_getElem (by omega)
  refine ⟨_, _, _, ?_, h1.trans hys⟩
  rw [← Go.Deep.add_add, hcell, hv]
theorem field_int {e : TypeId} {fs : Array Field} {W : World} {a : Addr} {i size n : Nat} {cs : List Value} {x : DataW H × List MemPlace} (he : P.underlying e = some (.struct fs)) (hone : oneCellFields P fs = true) (hfs : fs.size = size)
    (hc : W.cells? 0 (a.add (i * size)) size = some cs) (ht : DataW.trod enc P W 0 (fun _ => true) true n e cs = some x) (j : Nat) (hj : (fs[j]?).bind (fun f => P.underlying f.type) = some (.int .i64)) :
    ∃ z : Int, W.cell? (a.add (i * size + j)) = some (.int .i64 z) ∧ Fits64 z := by
  obtain ⟨f, hf, hu⟩ := Option.bind_eq_some_iff.1 hj
  obtain ⟨v, y, m, h1, h2⟩ := field_at he hone hfs hc ht j f hf
  obtain ⟨z, e1, _, wz⟩ := DataW.trod_int hu h2
  simp at e1
  subst e1
  exact ⟨z, h1, i64_of_wf wz⟩
theorem field_str {e : TypeId} {fs : Array Field} {W : World} {a : Addr} {i size n : Nat} {cs : List Value} {x : DataW H × List MemPlace} (he : P.underlying e = some (.struct fs)) (hone : oneCellFields P fs = true) (hfs : fs.size = size)
    (hc : W.cells? 0 (a.add (i * size)) size = some cs) (ht : DataW.trod enc P W 0 (fun _ => true) true n e cs = some x) (j : Nat) (hj : (fs[j]?).bind (fun f => P.underlying f.type) = some .string) :
    ∃ s : ByteArray, W.cell? (a.add (i * size + j)) = some (.string s) ∧ s.size ≤ maxLen := by
  obtain ⟨f, hf, hu⟩ := Option.bind_eq_some_iff.1 hj
  obtain ⟨v, y, m, h1, h2⟩ := field_at he hone hfs hc ht j f hf
  obtain ⟨s, e1, _, ws⟩ := DataW.trod_string hu h2
  simp at e1
  subst e1
  exact ⟨s, h1, ws⟩
instance : Inhabited Raw := ⟨⟨0, 0, 0, ⟨#[]⟩⟩⟩
/-- cells by element, as a reading of structs of 'size' cells -/
theorem reads_of_rows {W : World} {a : Addr} {n size : Nat} {C : Nat → List Value} (hz : 0 < size) (hlen : ∀ i, (C i).length = size) (hcell : ∀ i, i < n → ∀ j u, (C i)[j]? = some u → W.cell? (a.add (i * size + j)) = some u) :
    Reads W Any size (some a) n ((List.range n).map C).flatten := by
  have hl : ((List.range n).map C).flatten.length = n * size := by
    have : ∀ rs : List Nat, (rs.map C).flatten.length = rs.length * size := by
      intro rs
      induction rs with
      | nil => simp
      | cons r rs ih => simp only [List.map_cons, List.flatten_cons, List.length_append, hlen, ih, List.length_cons, Nat.add_mul]; omega
    simpa using this (List.range n)
  refine ⟨hl, fun hn => ?_⟩
  have h0 := hcell 0 hn 0 ((C 0)[0]'(by rw [hlen]; exact hz)) (List.getElem?_eq_getElem (by rw [hlen]; exact hz))
  simp only [Nat.zero_mul, Nat.add_zero] at h0
  obtain ⟨x, o, rfl⟩ := add_none h0
  refine ⟨x, o, rfl, trivial, fun j u hu => ?_⟩
  have hj : j < n * size := by
    rcases Nat.lt_or_ge j (n * size) with h | h
    · exact h
    · rw [List.getElem?_eq_none (by omega)] at hu; cases hu
  have hdiv : j / size < n := Nat.div_lt_of_lt_mul (by rw [Nat.mul_comm]; exact hj)
  have hmod : j % size < size := Nat.mod_lt _ hz
  have hsplit : j / size * size + j % size = j := by rw [Nat.mul_comm]; exact Nat.div_add_mod j size
  have hat := flatten_at (size := size) (vss := (List.range n).map C) (fun c hc => by obtain ⟨i, _, rfl⟩ := List.mem_map.1 hc; exact hlen i) (k := j / size) (c := C (j / size)) (by simp [hdiv]) (j % size) hmod
  rw [hsplit, hu] at hat
  have := hcell (j / size) hdiv (j % size) u hat.symm
  rwa [hsplit, Addr.add_lit] at this
/-- an argument []Raw: four cells each -/
theorem open_raws {t e : TypeId} {fs : Array Field} {W : World} {base : Nat} {v : Value} {d : DataW H} {p : List MemPlace} (ht : P.underlying t = some (.slice e)) (he : P.underlying e = some (.struct fs)) (hone : oneCellFields P fs = true) (hfs : fs.size = 4) (hC : P.cellsOf e = 4)
    (hf0 : (fs[0]?).bind (fun f => P.underlying f.type) = some (.int .i64)) (hf1 : (fs[1]?).bind (fun f => P.underlying f.type) = some (.int .i64)) (hf2 : (fs[2]?).bind (fun f => P.underlying f.type) = some (.int .i64)) (hf3 : (fs[3]?).bind (fun f => P.underlying f.type) = some .string)
    (hv : Value.okWide P W .any base t v) (h : DataW.Trod enc P W 0 (fun _ => true) true t v d p) :
    ∃ A n c rss l, v = .slice A n c ∧ n = l.length ∧ n ≤ c ∧ c ≤ maxLen ∧ Reads W Any 4 A n rss.flatten ∧ All2 (RawCells W Any) rss l := by
  obtain ⟨A, n, c, rfl⟩ := okWide_slice ht hv
  obtain ⟨fuel, hf⟩ := h
  rcases open_slice ht hf with ⟨hcs, _⟩ | ⟨a, len, cap, m, n', D, Pl, hcs, _, hl, hm, hmm, hx, hi⟩
  · simp [Value.cells] at hcs
    obtain ⟨rfl, rfl, rfl⟩ := hcs
    exact ⟨_, _, _, [], [], rfl, rfl, Nat.le_refl _, Nat.zero_le _, Reads.empty, All2.nil⟩
  · simp [Value.cells] at hcs
    obtain ⟨rfl, rfl, rfl⟩ := hcs
    simp only [if_true] at hmm
    subst hmm
    rw [hC] at hi
    obtain ⟨R, hR⟩ := choose_lt (α := Raw) (n := n) (p := fun i r => (∀ j u, [Value.int .i64 r.kind, .int .i64 r.a, .int .i64 r.b, .string r.text][j]? = some u → W.cell? (a.add (i * 4 + j)) = some u) ∧ Fits64 r.kind ∧ Fits64 r.a ∧ Fits64 r.b ∧ r.text.size ≤ maxLen) (by
      intro i hi'
      obtain ⟨cs', hc, ht'⟩ := hi i (by omega)
      obtain ⟨z0, c0, w0⟩ := field_int he hone hfs hc ht' 0 hf0
      obtain ⟨z1, c1, w1⟩ := field_int he hone hfs hc ht' 1 hf1
      obtain ⟨z2, c2, w2⟩ := field_int he hone hfs hc ht' 2 hf2
      obtain ⟨s3, c3, w3⟩ := field_str he hone hfs hc ht' 3 hf3
      refine ⟨⟨z0, z1, z2, s3⟩, fun j u hu => ?_, w0, w1, w2, w3⟩
      match j, hu with
      | 0, hu => simp at hu; subst hu; exact c0
      | 1, hu => simp at hu; subst hu; exact c1
      | 2, hu => simp at hu; subst hu; exact c2
      | 3, hu => simp at hu; subst hu; exact c3
      | j + 4, hu => simp at hu)
    refine ⟨_, _, _, (List.range n).map (fun i => [Value.int .i64 (R i).kind, .int .i64 (R i).a, .int .i64 (R i).b, .string (R i).text]), (List.range n).map R, rfl, by simp, hl, hm, ?_, by simp, fun i cs r h1 h2 => ?_⟩
    · exact reads_of_rows (C := fun i => [Value.int .i64 (R i).kind, .int .i64 (R i).a, .int .i64 (R i).b, .string (R i).text]) (by omega) (fun _ => rfl) (fun i hi' => (hR i hi').1)
    · have hi' : i < n := by
        rcases Nat.lt_or_ge i n with h | h
        · exact h
        · rw [List.getElem?_eq_none (by simp; omega)] at h1; cases h1
      simp [hi'] at h1 h2
      subst h1 h2
      exact ⟨rfl, (hR i hi').2⟩
end
end Go.Law
set_option linter.unusedVariables false
namespace Go.Chunk
/-- the length of the first piece, of at most so many bytes -/
def cutN : Nat → List UInt8 → Nat
  | 0, _ => 0
  | _ + 1, [] => 0
  | k + 1, b :: r => if b = 10 then 1 else 1 + cutN k r
theorem cutN_le : ∀ (k : Nat) (bs : List UInt8), cutN k bs ≤ k ∧ cutN k bs ≤ bs.length
  | 0, _ => by simp [cutN]
  | _ + 1, [] => by simp [cutN]
  | k + 1, b :: r => by
    have := cutN_le k r
    unfold cutN
    split
    · simp
    · simp; omega
theorem cutN_pos (k : Nat) (bs : List UInt8) (h : bs ≠ []) : 1 ≤ cutN (k + 1) bs := by
  cases bs with
  | nil => exact absurd rfl h
  | cons b r =>
    unfold cutN
    split <;> omega
/-- inside the piece there is no line feed, but at its end -/
theorem cutN_no : ∀ (k : Nat) (bs : List UInt8) (i : Nat) (h : i < bs.length), i + 1 < cutN k bs → bs[i] ≠ 10
  | 0, _, _, _, h => by simp [cutN] at h
  | _ + 1, [], _, h, _ => by simp at h
  | k + 1, b :: r, i, hi, h => by
    unfold cutN at h
    split at h
    · omega
    · rename_i hb
      cases i with
      | zero => simpa using hb
      | succ i =>
        have := cutN_no k r i (by simpa using hi) (by omega)
        simpa using this
/-- a piece that is shorter than it may be ends with a line feed, or is all -/
theorem cutN_end : ∀ (k : Nat) (bs : List UInt8), cutN k bs < k → cutN k bs < bs.length → ∃ h : cutN k bs - 1 < bs.length, bs[cutN k bs - 1] = 10 ∧ 0 < cutN k bs
  | 0, _, h, _ => by simp [cutN] at h
  | _ + 1, [], _, h => by simp [cutN] at h
  | k + 1, b :: r, h1, h2 => by
    by_cases hb : b = 10
    · subst hb
      refine ⟨by simp [cutN], ?_, by simp [cutN]⟩
      simp [cutN]
    · have e : cutN (k + 1) (b :: r) = 1 + cutN k r := by simp [cutN, hb]
      rw [e] at h1 h2
      obtain ⟨h3, h4, h5⟩ := cutN_end k r (by omega) (by simp at h2; omega)
      refine ⟨by rw [e]; simp; omega, ?_, by omega⟩
      have e2 : cutN (k + 1) (b :: r) - 1 = (cutN k r - 1) + 1 := by omega
      simp only [e2, List.getElem_cons_succ]
      exact h4
def cutF : Nat → List UInt8 → List (List UInt8)
  | 0, _ => []
  | _ + 1, [] => []
  | f + 1, b :: r => (b :: r).take (cutN 32 (b :: r)) :: cutF f ((b :: r).drop (cutN 32 (b :: r)))
theorem cutF_nil (f : Nat) : cutF f [] = [] := by cases f <;> rfl
theorem cutF_step (f : Nat) (bs : List UInt8) (h : bs ≠ []) : cutF (f + 1) bs = bs.take (cutN 32 bs) :: cutF f (bs.drop (cutN 32 bs)) := by
  cases bs with
  | nil => exact absurd rfl h
  | cons b r => rfl
theorem cutF_flat : ∀ (f : Nat) (bs : List UInt8), bs.length ≤ f → (cutF f bs).flatten = bs
  | 0, bs, h => by
    have : bs = [] := List.eq_nil_of_length_eq_zero (by omega)
    subst this
    rfl
  | f + 1, bs, h => by
    by_cases hb : bs = []
    · subst hb; rfl
    · have h1 : 1 ≤ cutN 32 bs := cutN_pos 31 bs hb
      have h2 := cutN_le 32 bs
      rw [cutF_step f bs hb, List.flatten_cons, cutF_flat f _ (by rw [List.length_drop]; omega), List.take_append_drop]
theorem cutF_len (f : Nat) (bs : List UInt8) : (cutF f bs).length ≤ f := by
  induction f generalizing bs with
  | zero => simp [cutF]
  | succ f ih =>
    by_cases hb : bs = []
    · subst hb; simp [cutF]
    · rw [cutF_step f bs hb]
      have := ih (bs.drop (cutN 32 bs))
      simp
      omega
/-- what holds of a piece: is it the last one? -/
def PieceOk (last : Bool) (p : List UInt8) : Prop :=
  1 ≤ p.length ∧ p.length ≤ 32 ∧ (last = false → p.length < 32 → p[p.length - 1]? = some 10) ∧ ∀ i, i + 1 < p.length → p[i]? ≠ some 10
theorem piece_ok (bs : List UInt8) (h : bs ≠ []) (last : Bool) (hl : last = false → cutN 32 bs < bs.length) : PieceOk last (bs.take (cutN 32 bs)) := by
  have h1 : 1 ≤ cutN 32 bs := cutN_pos 31 bs h
  have h2 := cutN_le 32 bs
  have e : (bs.take (cutN 32 bs)).length = cutN 32 bs := by rw [List.length_take]; omega
  refine ⟨by omega, by omega, fun h3 h4 => ?_, fun i hi => ?_⟩
  · obtain ⟨h5, h6, h7⟩ := cutN_end 32 bs (by omega) (hl h3)
    rw [e, List.getElem?_take, if_pos (by omega), List.getElem?_eq_getElem h5, h6]
  · rw [List.getElem?_take, if_pos (by omega)]
    have hib : i < bs.length := by omega
    rw [List.getElem?_eq_getElem hib]
    have := cutN_no 32 bs i hib (by omega)
    simpa using this
theorem cutF_ok : ∀ (f : Nat) (bs : List UInt8), bs.length ≤ f → ∀ (i : Nat) (p : List UInt8), (cutF f bs)[i]? = some p → PieceOk (decide (i + 1 = (cutF f bs).length)) p
  | 0, bs, _, i, p, hp => by simp [cutF] at hp
  | f + 1, bs, h, i, p, hp => by
    by_cases hb : bs = []
    · subst hb; simp [cutF] at hp
    · have h1 : 1 ≤ cutN 32 bs := cutN_pos 31 bs hb
      have h2 := cutN_le 32 bs
      rw [cutF_step f bs hb] at hp ⊢
      cases i with
      | zero =>
        simp at hp
        subst hp
        refine piece_ok bs hb _ fun hl => ?_
        simp at hl
        rcases Nat.lt_or_ge (cutN 32 bs) bs.length with h3 | h3
        · exact h3
        · exfalso
          have : bs.drop (cutN 32 bs) = [] := List.drop_eq_nil_of_le h3
          rw [this, cutF_nil] at hl
          simp at hl
      | succ i =>
        have := cutF_ok f (bs.drop (cutN 32 bs)) (by rw [List.length_drop]; omega) i p (by simpa using hp)
        simpa using this
end Go.Chunk
