/- What StoreTorn keeps: snapshots of raw ones, the log of them, where each ends; two rows that grow beside things of the call's own. · From a contract to a law's row: the arguments opened, the law's last step. Over any program. -/
import Derived.Test.YtgcpclbkjplipaaStoreLog
import Derived.Test.YtgcpclbkjplipaaStoreSnap
import Derived.Test.YtgcpclbkjplipaaStoreEq
import Derived.Test.YtgcpclbkjplipaaMem
import Derived.ProofKit
import Derived.OpenShut
import Derived.ShutString
import Derived.ChangeOld
import Derived.Deep.Matrix
set_option linter.unusedVariables false
namespace Go.Val
open Go.RowKit Go.Mem
/-- the snapshots of raw ones -/
def tornS (l : List Raw) (k : Nat) : List Snp := (List.range k).map fun i => snF (l.drop i) ((i : Int) * 13)
theorem tornS_next (l : List Raw) (k : Nat) : tornS l (k + 1) = tornS l k ++ [snF (l.drop k) ((k : Int) * 13)] := by simp [tornS, List.range_succ]
theorem tornS_len (l : List Raw) (k : Nat) : (tornS l k).length = k := by simp [tornS]
/-- the log of snapshots -/
def logE (ss : List Snp) : List UInt8 := (ss.map (snapE 41)).flatMap partE
theorem logE_snoc (ss : List Snp) (s : Snp) : logE (ss ++ [s]) = logE ss ++ partE (snapE 41 s) := by simp [logE]
end Go.Val
namespace Go.Proofs.Ytgcpclbkjplipaa
open Go.RowKit Go.Mem Go.Val Go.Chunk
theorem usedE_all (ss : List Snp) : usedE ss ss.length = (logE ss).length := by
  unfold usedE logE
  rw [List.take_of_length_le (by simp)]
theorem usedE_old (ss : List Snp) (s : Snp) (i : Nat) (h : i ≤ ss.length) : usedE (ss ++ [s]) i = usedE ss i := by
  unfold usedE
  rw [List.map_append, List.take_append_of_le_length (by simpa using h)]
theorem usedE_lt (ss : List Snp) (i : Nat) : ∀ j, i < j → j ≤ ss.length → usedE ss i < usedE ss j
  | 0, h, _ => by omega
  | j + 1, h, hl => by
    have h1 := usedE_next ss j (by omega)
    rcases Nat.lt_or_ge i j with h2 | h2
    · have := usedE_lt ss i j h2 (by omega)
      omega
    · have : i = j := by omega
      subst this
      omega
/-- the ends -/
def endsV (ss : List Snp) : List Value := (List.range (ss.length + 1)).map fun i => .int .i64 (usedE ss i : Nat)
theorem endsV_len (ss : List Snp) : (endsV ss).length = ss.length + 1 := by simp [endsV]
theorem endsV_at (ss : List Snp) (i : Nat) (h : i ≤ ss.length) : (endsV ss)[i]? = some (.int .i64 (usedE ss i : Nat)) := by
  unfold endsV
  rw [List.getElem?_map, List.getElem?_range (by omega)]
  rfl
theorem endsV_snoc (ss : List Snp) (s : Snp) : endsV (ss ++ [s]) = endsV ss ++ [.int .i64 ((logE (ss ++ [s])).length : Nat)] := by
  unfold endsV
  have e : (ss ++ [s]).length + 1 = (ss.length + 1) + 1 := by simp
  rw [e, List.range_succ, List.map_append]
  congr 1
  · apply List.map_congr_left
    intro i hi
    rw [usedE_old ss s i (by have := List.mem_range.1 hi; omega)]
  · simp only [List.map_cons, List.map_nil]
    rw [← usedE_all]
    simp
theorem endsV_one (ss : List Snp) : ∀ u ∈ endsV ss, u.oneCell' = true := by
  intro u hu
  obtain ⟨i, _, rfl⟩ := List.mem_map.1 hu
  rfl
theorem logE_max (ss : List Snp) (h : ∀ s ∈ ss, NiceSn s) : (logE ss).length ≤ 20000014 * ss.length := by
  unfold logE
  have := flatMap_len partE 20000014 (ss.map (snapE 41)) (fun x hx => by
    obtain ⟨s, hs, rfl⟩ := List.mem_map.1 hx
    rw [partE_len]
    have := snapE_max s (h s hs)
    omega)
  simp only [List.length_map] at this
  omega
/-- from B on, and in neither of two rows -/
def Off (B : Nat) (a e : Option Nat) (b : Nat) : Prop := B ≤ b ∧ a ≠ some b ∧ e ≠ some b
theorem Off.left {B : Nat} {a e : Option Nat} {w w' : World} (h : w.grownBy w' a) : Same (Off B a e) w w' := Same.of_grown h fun b hb _ e => hb.2.1 e.symm
theorem Off.right {B : Nat} {a e : Option Nat} {w w' : World} (h : w.grownBy w' e) : Same (Off B a e) w w' := Same.of_grown h fun b hb _ e => hb.2.2 e.symm
theorem Off.to {B n : Nat} {a e a' e' : Option Nat} (ha : a' = a ∨ ∃ k, a' = some k ∧ n ≤ k) (he : e' = e ∨ ∃ k, e' = some k ∧ n ≤ k) : ∀ b, Off B a e b → b < n → Off B a' e' b := by
  rintro b ⟨h1, h2, h3⟩ hl
  refine ⟨h1, ?_, ?_⟩
  · rcases ha with rfl | ⟨k, rfl, hk⟩
    · exact h2
    · intro e; injection e with e; omega
  · rcases he with rfl | ⟨k, rfl, hk⟩
    · exact h3
    · intro e; injection e with e; omega
theorem info_Sn : (Try.prog.info? 85).map (fun i => (i.zero, i.size, i.bytes)) = some (some (.agg #[.int .i64 0, .slice none 0 0, .slice none 0 0]), 3, 56) := by kernel_rfl
theorem app_Sn (w : World) {ops : Array Oper} {rest : List Oper} {o : Oper} {a : Act} {Q : Exit → Act → World → Prop} (hgd : o.guard = none) (s x : Operand)
    (ho : o.op = .call { callee := .builtin .append, args := #[s, x], argTypes := #[92, 92] })
    {base : Nat} {v : Value} {n : Nat} {xs : List Value} (hown : w.ownsRow base 85 3 v n xs) (hs : a.eval s = v)
    {D : Nat → Prop} {A : Option Addr} {m : Nat} {news : List Value} (hr : Reads w D 3 A m news) {c : Nat} (hx : a.eval x = .slice A m c) (h1 : ∀ u ∈ news, u.oneCell' = true)
    (h63 : n + m ≤ 1099511627) (hbase : base ≤ w.heap.size)
    (h : ∀ v' w', w'.ownsRow base 85 3 v' (n + m) (xs ++ news) → w.grownBy w' v.ownBlock → (v'.ownBlock = v.ownBlock ∨ v'.ownBlock = some w.heap.size) → wpList Try.prog ops Q rest (a.put o.dst v') w') : wpList Try.prog ops Q (o :: rest) a w := by
  obtain ⟨i0, hi0, hz0, hz1, hz2⟩ := info_parts info_Sn
  exact wpList_append_any w hgd s x _ ho base _ i0 _ 3 56 Try.underlying92 hi0 hz0 hz1 hz2 rfl (by omega) v n xs hs hown D A m c news hx hr h1 (by simp only [maxLen]; omega) (by omega) hbase h
theorem info_in : (Try.prog.info? 3).map (fun i => (i.zero, i.size, i.bytes)) = some (some (.int .i64 0), 1, 8) := by kernel_rfl
theorem app_in (w : World) {ops : Array Oper} {rest : List Oper} {o : Oper} {a : Act} {Q : Exit → Act → World → Prop} (hgd : o.guard = none) (s x : Operand)
    (ho : o.op = .call { callee := .builtin .append, args := #[s, x], argTypes := #[42, 42] })
    {base : Nat} {v : Value} {n : Nat} {xs : List Value} (hown : w.ownsRow base 3 1 v n xs) (hs : a.eval s = v)
    {D : Nat → Prop} {A : Option Addr} {m : Nat} {news : List Value} (hr : Reads w D 1 A m news) {c : Nat} (hx : a.eval x = .slice A m c) (h1 : ∀ u ∈ news, u.oneCell' = true)
    (h63 : n + m ≤ 1099511627776) (hbase : base ≤ w.heap.size)
    (h : ∀ v' w', w'.ownsRow base 3 1 v' (n + m) (xs ++ news) → w.grownBy w' v.ownBlock → (v'.ownBlock = v.ownBlock ∨ v'.ownBlock = some w.heap.size) → wpList Try.prog ops Q rest (a.put o.dst v') w') : wpList Try.prog ops Q (o :: rest) a w := by
  obtain ⟨i0, hi0, hz0, hz1, hz2⟩ := info_parts info_in
  exact wpList_append_any w hgd s x _ ho base _ i0 _ 1 8 Try.underlying42 hi0 hz0 hz1 hz2 rfl (by omega) v n xs hs hown D A m c news hx hr h1 (by simp only [maxLen]; omega) (by omega) hbase h
end Go.Proofs.Ytgcpclbkjplipaa
set_option linter.unusedVariables false
namespace Go.Law
open Go.ChangeShapes Go.WideShapes Go.ChangeAt Go.RowKit Go.Mem
open Go.ChangeMaps (open_string shut_string)

section
variable {H : Type} {enc : TypeId × Value → H} {P : Program}

/-- All arguments read behind the call as they read before. -/
theorem trodAll_stays (hl : laidOutB P = true) {W W' : World} (hb : Below W.heap.size W W') : ∀ (ts : List TypeId) (_ : ∀ t ∈ ts, P.readableRec t = true ∧ t < P.types.size) (vs : List Value) (ds : List (DataW H)) (ps : List MemPlace),
    DataW.TrodAll enc P W 0 (fun _ => true) true ts vs ds ps → DataW.TrodAll enc P W' 0 (fun b => decide (b < W.heap.size)) true ts vs ds ps
  | [], _, [], [], ps, h => h
  | t :: ts, ht, v :: vs, d :: ds, ps, h => by
    obtain ⟨p, q, h1, h2, rfl⟩ := h
    have hlt : ∀ x ∈ p, x.block < W.heap.size := by obtain ⟨m, hm⟩ := h1; exact DataW.trod_lt m _ _ _ hm
    exact ⟨p, q, Below.trod hl (ht t (by simp)).1 (ht t (by simp)).2 h1 hb hlt, trodAll_stays hl hb ts (fun t h => ht t (by simp [h])) vs ds q h2, rfl⟩
  | [], _, _ :: _, _, _, h => by simp [DataW.TrodAll] at h
  | [], _, [], _ :: _, _, h => by simp [DataW.TrodAll] at h
  | _ :: _, _, [], _, _, h => by simp [DataW.TrodAll] at h
  | _ :: _, _, _ :: _, [], _, h => by simp [DataW.TrodAll] at h

/-- The last step of a law that returns true and writes nothing that was there. -/
theorem law_post {f : Func} {s : ChangeSpec} {W W' : World} {args : Array Value} {ds gs : List (DataW H)} {before : List MemPlace} {tb : TypeId} (hl : laidOutB P = true) (htb : P.underlying tb = some .bool)
    (hts : f.params.toList.all (fun t => P.readableRec t && decide (t < P.types.size)) = true) (hrt : f.resultTypes = #[tb]) (hv : s.vars = []) (hfn : s.fn H (ds ++ gs) = { results := [.lit (.bool true)], args := ds })
    (hW : DataW.Whole enc P f.params.toList s.vars false W args.toList ds gs before) (hb : Below W.heap.size W W') : s.post enc P f false true false false W args (.bool true) W' := by
  have hW' := hW
  obtain ⟨p, q, hA, hV, rfl, hfz, hnd⟩ := hW
  rw [hv] at hV
  obtain ⟨rfl, rfl⟩ := trodVars_none hV
  refine ⟨_, _, _, [], p, [], hW', ?_, ?_, ?_, hb.frame _, fun h => by cases h⟩
  · rw [hfn, hrt]
    exact trodAll_mk1 (shut_bool htb _)
  · rw [hfn]
    exact trodAll_stays hl hb _ (fun t ht => by simpa using (List.all_eq_true.1 hts) t ht) _ _ _ hA
  · rw [hfn, hv]
    rfl

/-- a byte out of a number that fits -/
def b8 (n : Int) : UInt8 := UInt8.ofNat n.toNat
theorem b8_back {n : Int} (h : (Lit.int .u8 n).wf = true) : ((b8 n).toNat : Int) = n := by
  have hx : 0 ≤ n ∧ n ≤ 255 := by simpa [Lit.wf, IntKind.min, IntKind.max, IntKind.signed, IntKind.bits] using h
  simp [b8]
  omega
theorem i64_of_wf {n : Int} (h : (Lit.int .i64 n).wf = true) : -9223372036854775808 ≤ n ∧ n ≤ 9223372036854775807 := by
  simpa [Lit.wf, IntKind.min, IntKind.max, IntKind.signed, IntKind.bits] using h
theorem add_none {b : Addr} {w : World} {v : Value} (h : w.cell? (b.add 0) = some v) : ∃ x o, b = ⟨x, o, none⟩ := by
  obtain ⟨x, o, s⟩ := b
  have hs : s = none := by simpa [Addr.add] using World.cell?_spot h
  subst hs
  exact ⟨x, o, rfl⟩

/-- cells by index, as a reading -/
theorem reads_of_ints {w : World} {a : Addr} {len : Nat} {zs : List Int} {k : IntKind} (hz : len ≤ zs.length) (hcell : ∀ i, i < zs.length → w.cell? (a.add i) = some (.int k (zs.getD i 0))) :
    Reads w Any 1 (some a) len ((zs.take len).map (Value.int k)) := by
  refine ⟨by simp; omega, fun hn => ?_⟩
  have h0 := hcell 0 (by omega)
  obtain ⟨x, o, rfl⟩ := add_none h0
  refine ⟨x, o, rfl, trivial, fun j u hu => ?_⟩
  have hj : j < len := by
    rcases Nat.lt_or_ge j len with h | h
    · exact h
    · rw [List.getElem?_eq_none (by simp; omega)] at hu; cases hu
  have := hcell j (by omega)
  rw [Addr.add_lit] at this
  rw [this, ← hu]
  simp [hj, List.getD, List.getElem?_eq_getElem (show j < zs.length by omega)]
theorem u8s_of_ints {zs : List Int} (h : ∀ n ∈ zs, (Lit.int .u8 n).wf = true) : zs.map (Value.int .u8) = u8s (zs.map b8) := by
  simp only [u8s, List.map_map]
  apply List.map_congr_left
  intro n hn
  simp [b8_back (h n hn)]

/-- an argument []byte -/
theorem open_bytes {t e : TypeId} {W : World} {base : Nat} {v : Value} {d : DataW H} {p : List MemPlace} (ht : P.underlying t = some (.slice e)) (he : P.underlying e = some (.int .u8)) (hc : P.cellsOf e = 1)
    (hv : Value.okWide P W .any base t v) (h : DataW.Trod enc P W 0 (fun _ => true) true t v d p) : ∃ A n c bs, v = .slice A n c ∧ n ≤ c ∧ c ≤ maxLen ∧ Reads W Any 1 A n (u8s bs) := by
  obtain ⟨A, n, c, rfl⟩ := okWide_slice ht hv
  obtain ⟨fuel, hf⟩ := h
  rcases open_ints ht he hc hf with ⟨hcs, _⟩ | ⟨x, l, c', zs, hcs, _, hl, hm, hz, _, hcell, hwz⟩
  · simp [Value.cells] at hcs
    obtain ⟨rfl, rfl, rfl⟩ := hcs
    exact ⟨_, _, _, [], rfl, Nat.le_refl _, Nat.zero_le _, Reads.empty⟩
  · simp [Value.cells] at hcs
    obtain ⟨rfl, rfl, rfl⟩ := hcs
    simp only [if_true] at hz
    have h1 := reads_of_ints (len := n) (by omega) hcell
    rw [u8s_of_ints (fun n hn => hwz n (List.mem_of_mem_take hn))] at h1
    exact ⟨_, _, _, _, rfl, hl, hm, h1⟩

/-- an argument [][]byte -/
theorem open_rows {t e q : TypeId} {W : World} {base : Nat} {v : Value} {d : DataW H} {p : List MemPlace} (ht : P.underlying t = some (.slice e)) (he : P.underlying e = some (.slice q)) (hq : P.underlying q = some (.int .u8)) (ce : P.cellsOf e = 1) (cq : P.cellsOf q = 1)
    (hv : Value.okWide P W .any base t v) (h : DataW.Trod enc P W 0 (fun _ => true) true t v d p) :
    ∃ A n c vss l, v = .slice A n c ∧ n = l.length ∧ n ≤ c ∧ c ≤ maxLen ∧ Reads W Any 1 A n vss.flatten ∧ All2 (BytesCell W Any) vss l := by
  obtain ⟨A, n, c, rfl⟩ := okWide_slice ht hv
  obtain ⟨fuel, hf⟩ := h
  rcases Go.Deep.open_int_rows ht he hq ce cq hf with ⟨hcs, _⟩ | ⟨x, l, c', AA, L, C, Z, hcs, _, hl, hm, _, hrow⟩
  · simp [Value.cells] at hcs
    obtain ⟨rfl, rfl, rfl⟩ := hcs
    exact ⟨_, _, _, [], [], rfl, rfl, Nat.le_refl _, Nat.zero_le _, Reads.empty, All2.nil⟩
  · simp [Value.cells] at hcs
    obtain ⟨rfl, rfl, rfl⟩ := hcs
    have hflat : ((List.range n).map fun r => [Value.slice (AA r) (L r) (C r)]).flatten = (List.range n).map fun r => Value.slice (AA r) (L r) (C r) := by
      generalize List.range n = rs
      induction rs with
      | nil => rfl
      | cons a r ih => simp [ih]
    refine ⟨_, _, _, (List.range n).map fun r => [Value.slice (AA r) (L r) (C r)], (List.range n).map fun r => ((Z r).take (L r)).map b8, rfl, by simp, hl, hm, ?_, by simp, fun i cs bs h1 h2 => ?_⟩
    · rw [hflat]
      refine ⟨by simp, fun hn => ?_⟩
      obtain ⟨b, o, rfl⟩ := add_none (hrow 0 (by omega)).1
      refine ⟨b, o, rfl, trivial, fun j u hu => ?_⟩
      have hj : j < n := by
        rcases Nat.lt_or_ge j n with h | h
        · exact h
        · rw [List.getElem?_eq_none (by simp; omega)] at hu; cases hu
      have := (hrow j (by omega)).1
      rw [Addr.add_lit] at this
      rw [this, ← hu]
      simp [hj]
    · have hi : i < n := by
        rcases Nat.lt_or_ge i n with h | h
        · exact h
        · rw [List.getElem?_eq_none (by simp; omega)] at h1; cases h1
      simp [hi] at h1 h2
      subst h1 h2
      obtain ⟨_, r1, r2, r3, r4, r5, r6⟩ := hrow i (by omega)
      refine ⟨_, rfl, _, _, _, rfl, r1, r2, ?_⟩
      rw [← List.map_take, ← u8s_of_ints (fun m hm => r4 m (List.mem_of_mem_take hm))]
      cases hA : AA i with
      | none =>
        have hc0 := r5 hA
        have hl0 : L i = 0 := by omega
        rw [hl0]
        exact Reads.empty
      | some a' => exact reads_of_ints (by omega) (fun c hc => (r6 a' hA).2 c (by omega))
end
end Go.Law
