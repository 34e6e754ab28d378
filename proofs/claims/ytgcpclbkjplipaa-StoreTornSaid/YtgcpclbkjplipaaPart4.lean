/- Words for values in memory: raw numbers and texts, values; what valueOf makes of raw ones. · append of a string's bytes onto a row of the call's own: where the new row lies. Over any program. -/
import Derived.Test.YtgcpclbkjplipaaValLaw
import Derived.Test.YtgcpclbkjplipaaMem
import Derived.Lib.AppendStr
set_option linter.unusedVariables false
namespace Go.Val
open Go.RowKit Go.Mem

def restN (n many : Int) : Int := if n < 0 then (-(n + 1)) % many else n % many

structure Raw where
  kind : Int
  a : Int
  b : Int
  text : ByteArray

def Fits64 (n : Int) : Prop := -9223372036854775808 ≤ n ∧ n ≤ 9223372036854775807
/-- the four cells of a raw one -/
def RawCells (w : World) (D : Nat → Prop) (cs : List Value) (r : Raw) : Prop :=
  cs = [.int .i64 r.kind, .int .i64 r.a, .int .i64 r.b, .string r.text] ∧ Fits64 r.kind ∧ Fits64 r.a ∧ Fits64 r.b ∧ r.text.size ≤ maxLen
theorem RawCells.stable : Stable 4 RawCells where
  keep := fun h _ => h
  imp := fun h _ => h
  len := fun h => by rw [h.1]; rfl
  one := fun h u hu => by rw [h.1] at hu; simp at hu; rcases hu with rfl | rfl | rfl | rfl <;> rfl

/-- the four cells of a value of at most a depth -/
def VCells : Nat → World → (Nat → Prop) → List Value → V → Prop
  | 0, _, _, _, _ => False
  | d + 1, w, D, cs, .mk k n t a => ∃ A c vss, cs = [.int .i64 k, .int .i64 n, .string t, .slice A a.length c] ∧ (0 ≤ k ∧ k ≤ 255) ∧ Fits64 n ∧ t.size ≤ 4611686018427387904 ∧ a.length ≤ 4194304 ∧ a.length ≤ c ∧ c ≤ maxLen ∧
      Reads w D 4 A a.length vss.flatten ∧ All2 (VCells d w D) vss a
theorem VCells.keep : ∀ {d : Nat} {w w' : World} {D : Nat → Prop} {cs : List Value} {v : V}, VCells d w D cs v → Same D w w' → VCells d w' D cs v
  | 0, _, _, _, _, _, h, _ => h
  | d + 1, w, w', D, cs, .mk k n t a, h, hk => by
    obtain ⟨A, c, vss, e, h1, h2, h3, h4, h5, h6, hr, ha⟩ := h
    exact ⟨A, c, vss, e, h1, h2, h3, h4, h5, h6, hr.keep hk, ha.imp fun x y hxy => hxy.keep hk⟩
theorem VCells.imp : ∀ {d : Nat} {w : World} {D D' : Nat → Prop} {cs : List Value} {v : V}, VCells d w D cs v → (∀ b, D b → b < w.heap.size → D' b) → VCells d w D' cs v
  | 0, _, _, _, _, _, h, _ => h
  | d + 1, w, D, D', cs, .mk k n t a, h, hk => by
    obtain ⟨A, c, vss, e, h1, h2, h3, h4, h5, h6, hr, ha⟩ := h
    exact ⟨A, c, vss, e, h1, h2, h3, h4, h5, h6, hr.imp (by omega) hk, ha.imp fun x y hxy => hxy.imp hk⟩
theorem VCells.form {d : Nat} {w : World} {D : Nat → Prop} {cs : List Value} {v : V} (h : VCells d w D cs v) : ∃ A c, cs = [.int .i64 v.kind, .int .i64 v.num, .string v.text, .slice A v.args.length c] := by
  cases d with
  | zero => exact h.elim
  | succ d =>
    obtain ⟨k, n, t, a⟩ := v
    obtain ⟨A, c, vss, e, _⟩ := h
    exact ⟨A, c, e⟩
theorem VCells.stable (d : Nat) : Stable 4 (VCells d) where
  keep := fun h hk => h.keep hk
  imp := fun h hk => h.imp hk
  len := fun h => by obtain ⟨A, c, e⟩ := h.form; rw [e]; rfl
  one := fun h u hu => by obtain ⟨A, c, e⟩ := h.form; rw [e] at hu; simp at hu; rcases hu with rfl | rfl | rfl | rfl <;> rfl
theorem VCells.ok : ∀ {d : Nat} {w : World} {D : Nat → Prop} {cs : List Value} {v : V}, VCells d w D cs v → okV d v
  | 0, _, _, _, _, h => h
  | d + 1, w, D, cs, .mk k n t a, h => by
    obtain ⟨A, c, vss, e, h1, h2, h3, h4, h5, h6, hr, ha⟩ := h
    refine ⟨h1, h2, by omega, by omega, fun x hx => ?_⟩
    obtain ⟨i, hi, rfl⟩ := List.mem_iff_getElem.1 hx
    obtain ⟨cs', _, hc⟩ := ha.at_ hi
    exact hc.ok
theorem VCells.more : ∀ {d : Nat} {w : World} {D : Nat → Prop} {cs : List Value} {v : V}, VCells d w D cs v → VCells (d + 1) w D cs v
  | 0, _, _, _, _, h => h.elim
  | d + 1, w, D, cs, .mk k n t a, h => by
    obtain ⟨A, c, vss, e, h1, h2, h3, h4, h5, h6, hr, ha⟩ := h
    exact ⟨A, c, vss, e, h1, h2, h3, h4, h5, h6, hr, ha.imp fun x y hxy => hxy.more⟩
theorem VCells.le {d d' : Nat} (h : d ≤ d') {w : World} {D : Nat → Prop} {cs : List Value} {v : V} (hv : VCells d w D cs v) : VCells d' w D cs v := by
  induction h with
  | refl => exact hv
  | step _ ih => exact ih.more

/-! ### What valueOf makes of raw ones -/
def cutText (s : ByteArray) : ByteArray := s.extract 0 (min s.size 20)
def unitV : V := .mk 1 0 ⟨#[]⟩ []
/-- number, text, how many follow; of a kind -/
def headF (k : Int) (r : Raw) : Int × ByteArray × Nat :=
  if k = 2 ∨ k = 6 then (r.a, ⟨#[]⟩, 0)
  else if k = 3 then (restN r.a 2, ⟨#[]⟩, 0)
  else if k = 4 then (0, cutText r.text, 0)
  else if k = 5 then (0, ⟨#[77]⟩ ++ cutText r.text, (restN r.a 4).toNat)
  else if k = 7 then (r.a, cutText r.text, (restN r.b 3).toNat)
  else if k = 8 then (0, ⟨#[]⟩, (restN r.a 2).toNat)
  else (0, ⟨#[]⟩, 0)
def manyF (f : Nat → V × Nat) : Nat → Nat → List V × Nat
  | 0, at_ => ([], at_)
  | n + 1, at_ => ((manyF f n at_).1 ++ [(f (manyF f n at_).2).1], (f (manyF f n at_).2).2)
def nextF (l : List Raw) : Nat → Nat → V × Nat
  | 0, at_ => (unitV, at_)
  | d + 1, at_ => match (l.take 60)[at_]? with
    | none => (unitV, at_)
    | some r => (.mk (1 + restN r.kind 8) (headF (1 + restN r.kind 8) r).1 (headF (1 + restN r.kind 8) r).2.1 (manyF (nextF l d) (headF (1 + restN r.kind 8) r).2.2 (at_ + 1)).1, (manyF (nextF l d) (headF (1 + restN r.kind 8) r).2.2 (at_ + 1)).2)
theorem manyF_len (f : Nat → V × Nat) (n at_ : Nat) : (manyF f n at_).1.length = n := by
  induction n with
  | zero => rfl
  | succ n ih => simp [manyF, ih]
theorem manyF_le {f : Nat → V × Nat} {B : Nat} (hf : ∀ a, a ≤ B → (f a).2 ≤ B) (n at_ : Nat) (h : at_ ≤ B) : (manyF f n at_).2 ≤ B := by
  induction n with
  | zero => exact h
  | succ n ih => exact hf _ ih
theorem nextF_le (l : List Raw) : ∀ (d at_ : Nat), at_ ≤ 60 → (nextF l d at_).2 ≤ 60
  | 0, at_, h => h
  | d + 1, at_, h => by
    unfold nextF
    split
    · exact h
    · rename_i r hr
      have hlt : at_ < 60 := by
        have := (List.getElem?_eq_some_iff.1 hr).1
        simp at this
        omega
      exact manyF_le (fun a ha => nextF_le l d a ha) _ _ (by omega)
/-- the value of raw ones -/
def valF (l : List Raw) : V := (nextF l 20 0).1
end Go.Val
set_option linter.unusedVariables false
namespace Go.Mem
open Go.RowKit
theorem blks2 (w : World) (t1 t2 : TypeId) (c1 c2 : List Value) (W : World) (hW : W = (w.alloc (.cells c1.toArray t1)).alloc (.cells c2.toArray t2)) :
    Blk W w.heap.size t1 c1 ∧ Blk W (w.heap.size + 1) t2 c2 ∧ Below w.heap.size w W ∧ W.heap.size = w.heap.size + 1 + 1 := by
  subst hW
  have b1 := Blk.new w t1 c1
  have b2 := Blk.new (w.alloc (.cells c1.toArray t1)) t2 c2
  refine ⟨b1.alloc _, by simpa using b2, ((Below.refl _ _).alloc (Nat.le_refl _) _).alloc (by simp) _, by simp⟩
theorem Reads.new_at (w : World) (cs : List Value) (size n : Nat) (e : TypeId) (D : Nat → Prop) (g : Nat) (hg : g = w.heap.size) (hD : D g) (hl : cs.length = n * size) : Reads (w.alloc (.cells cs.toArray e)) D size (some ⟨g, 0, none⟩) n cs := by
  subst hg
  exact Reads.new w cs size n e D hD hl
section
variable {P : Program} (w : World)
theorem run_append_str (base : Nat) (t u ty e : TypeId) (i : TypeInfo) (ht : P.underlying t = some (.slice e)) (hu : P.underlying u = some .string) (hi : P.info? e = some i) (hz : i.zero = some (.int .u8 0))
    (hsize : i.size = 1) (hby : i.bytes = 1) (v : Value) (n : Nat) (xs : List Value) (hown : w.ownsRow base e 1 v n xs) (s : ByteArray)
    (h63 : n + s.size ≤ maxLen) (hbytes : n + s.size ≤ 140737488355328) (hbase : base ≤ w.heap.size) :
    ∃ v' w', (Builtin.append_ #[t, u] ty #[v, .string s]).run P w = .ok v' w' ∧ w'.ownsRow base e 1 v' (n + s.size) (xs ++ u8s s.data.toList) ∧ w.grownBy w' v.ownBlock ∧
      (v'.ownBlock = v.ownBlock ∨ v'.ownBlock = some w.heap.size) := by
  obtain ⟨v', w', hr, h2, h3, h4⟩ := Lib.run_append_own_string (P := P) w base t u ty e i ht hu hi hz hsize hby v n xs hown s h63 hbytes hbase
  refine ⟨v', w', hr, h2, h3, ?_⟩
  have hsmall : n + s.size ≤ 9223372036854775807 := by simp only [maxLen] at h63; omega
  rcases hown.2 with ⟨rfl, rfl⟩ | ⟨g, cap, cur, rfl, hbg, hg, hnc, hcm, hcs, htake⟩
  · by_cases hm : s.size = 0
    · rw [h4.2 ⟨rfl, hm⟩]
      exact .inl rfl
    · have hr2 := run_append_nil_string (P := P) w t u ty e i (.int .u8 0) ht hu hi hz s (by omega) (by omega) (by rw [hby]; omega)
      rw [hr2] at hr
      injection hr with e1
      subst e1
      exact .inr rfl
  · by_cases hroom : n + s.size ≤ cap
    · have hcs' : cur.size = cap := by simpa using hcs
      have hr2 := Lib.run_append_room_string (P := P) w t u ty e i ht hu hi hsize g n cap cur hg s hroom (by omega)
      rw [hr2] at hr
      injection hr with e1
      subst e1
      exact .inl rfl
    · have hxl : xs.length = n := by simpa using hown.1
      have holds : ∀ j u, xs[j]? = some u → w.cell? ((⟨g, 0, none⟩ : Addr).add j) = some u := hown.cells (g := g) rfl
      have hr2 := Lib.run_append_grow_string (P := P) w t u ty e i (.int .u8 0) ht hu hi hz ⟨g, 0, none⟩ n cap xs (by rw [hsize]; simpa using hxl) holds s (by omega) (by omega) (by rw [hby]; exact growslice_fits (by omega) (by omega))
      rw [hr2] at hr
      injection hr with e1
      subst e1
      exact .inr rfl
theorem wpList_append_str {ops : Array Oper} {rest : List Oper} {o : Oper} {a : Act} {Q : Exit → Act → World → Prop} (hgd : o.guard = none) (sl x : Operand) (t u : TypeId)
    (ho : o.op = .call { callee := .builtin .append, args := #[sl, x], argTypes := #[t, u] })
    (base : Nat) (e : TypeId) (i : TypeInfo) (ht : P.underlying t = some (.slice e)) (hu : P.underlying u = some .string) (hi : P.info? e = some i) (hz : i.zero = some (.int .u8 0))
    (hsize : i.size = 1) (hby : i.bytes = 1)
    (v : Value) (n : Nat) (xs : List Value) (hs : a.eval sl = v) (hown : w.ownsRow base e 1 v n xs) (s : ByteArray) (hx : a.eval x = .string s)
    (h63 : n + s.size ≤ maxLen) (hbytes : n + s.size ≤ 140737488355328) (hbase : base ≤ w.heap.size)
    (h : ∀ v' w', w'.ownsRow base e 1 v' (n + s.size) (xs ++ u8s s.data.toList) → w.grownBy w' v.ownBlock → (v'.ownBlock = v.ownBlock ∨ v'.ownBlock = some w.heap.size) → wpList P ops Q rest (a.put o.dst v') w') : wpList P ops Q (o :: rest) a w := by
  refine wpList_plain hgd fun K hK => ?_
  obtain ⟨v', w', hr, h2, h3, h4⟩ := run_append_str (P := P) w base t u o.type e i ht hu hi hz hsize hby v n xs hown s h63 hbytes hbase
  unfold Oper.wp execOp
  simp only [ho, resolve, invoke, builtin, Sem.run_bind, Sem.run_pure, Result.andThen_ok, List.map_toArray, List.map_cons, List.map_nil, hs, hx, hr]
  exact hK _ _ (h v' w' h2 h3 h4)
end
end Go.Mem
