/- From a contract to a law's row: the arguments opened, the law's last step. Over any program. · Plain laws of the encoding of numbers, texts, lists and values: decoding undoes encoding, and what is decoded was encoded so. No program in sight. -/
import Derived.Test.YteojmmjanjilaaaMem
import Derived.ProofKit
import Derived.OpenShut
import Derived.ShutString
import Derived.ChangeOld
import Derived.Deep.Matrix
set_option linter.unusedVariables false
namespace Go.Law
open Go.ChangeShapes Go.WideShapes Go.ChangeAt Go.RowKit Go.Mem
open Go.ChangeMaps (open_string shut_string)

section
variable {H : Type} {enc : TypeId × Value → H} {P : Program}

/-- All arguments read behind the call as they read before. -/
theorem trodAll_stays (hl : laidOutB P = true) {W W' : World} (hb : Below W.heap.size W W') : ∀ (ts : List TypeId) (_ : ∀ t ∈ ts, P.readableRec t = true ∧ t < P.types.size) (vs : List Value) (ds : List (DataW H)) (ps : List MemPlace),
    DataW.TrodAll enc P W 0 (fun _ => true) true ts vs ds ps → DataW.TrodAll enc P W' 0 (fun b => decide (b < W.heap.size)) true ts vs ds ps
  | [], _, [], [], ps, h => h
  | t :: ts, ht, v :: vs, d :: ds, ps, h => by
    obtain ⟨p, q, h1, h2, rfl⟩ := h
    have hlt : ∀ x ∈ p, x.block < W.heap.size := by obtain ⟨m, hm⟩ := h1; exact DataW.trod_lt m _ _ _ hm
    exact ⟨p, q, Below.trod hl (ht t (by simp)).1 (ht t (by simp)).2 h1 hb hlt, trodAll_stays hl hb ts (fun t h => ht t (by simp [h])) vs ds q h2, rfl⟩
  | [], _, _ :: _, _, _, h => by simp [DataW.TrodAll] at h
  | [], _, [], _ :: _, _, h => by simp [DataW.TrodAll] at h
  | _ :: _, _, [], _, _, h => by simp [DataW.TrodAll] at h
  | _ :: _, _, _ :: _, [], _, h => by simp [DataW.TrodAll] at h

/-- The last step of a law that returns true and writes nothing that was there. -/
theorem law_post {f : Func} {s : ChangeSpec} {W W' : World} {args : Array Value} {ds gs : List (DataW H)} {before : List MemPlace} {tb : TypeId} (hl : laidOutB P = true) (htb : P.underlying tb = some .bool)
    (hts : f.params.toList.all (fun t => P.readableRec t && decide (t < P.types.size)) = true) (hrt : f.resultTypes = #[tb]) (hv : s.vars = []) (hfn : s.fn H (ds ++ gs) = { results := [.lit (.bool true)], args := ds })
    (hW : DataW.Whole enc P f.params.toList s.vars false W args.toList ds gs before) (hb : Below W.heap.size W W') : s.post enc P f false true false false W args (.bool true) W' := by
  have hW' := hW
  obtain ⟨p, q, hA, hV, rfl, hfz, hnd⟩ := hW
  rw [hv] at hV
  obtain ⟨rfl, rfl⟩ := trodVars_none hV
  refine ⟨_, _, _, [], p, [], hW', ?_, ?_, ?_, hb.frame _, fun h => by cases h⟩
  · rw [hfn, hrt]
    exact trodAll_mk1 (shut_bool htb _)
  · rw [hfn]
    exact trodAll_stays hl hb _ (fun t ht => by simpa using (List.all_eq_true.1 hts) t ht) _ _ _ hA
  · rw [hfn, hv]
    rfl

/-- a byte out of a number that fits -/
def b8 (n : Int) : UInt8 := UInt8.ofNat n.toNat
theorem b8_back {n : Int} (h : (Lit.int .u8 n).wf = true) : ((b8 n).toNat : Int) = n := by
  have hx : 0 ≤ n ∧ n ≤ 255 := by simpa [Lit.wf, IntKind.min, IntKind.max, IntKind.signed, IntKind.bits] using h
  simp [b8]
  omega
theorem i64_of_wf {n : Int} (h : (Lit.int .i64 n).wf = true) : -9223372036854775808 ≤ n ∧ n ≤ 9223372036854775807 := by
  simpa [Lit.wf, IntKind.min, IntKind.max, IntKind.signed, IntKind.bits] using h
theorem add_none {b : Addr} {w : World} {v : Value} (h : w.cell? (b.add 0) = some v) : ∃ x o, b = ⟨x, o, none⟩ := by
  obtain ⟨x, o, s⟩ := b
  have hs : s = none := by simpa [Addr.add] using World.cell?_spot h
  subst hs
  exact ⟨x, o, rfl⟩

/-- cells by index, as a reading -/
theorem reads_of_ints {w : World} {a : Addr} {len : Nat} {zs : List Int} {k : IntKind} (hz : len ≤ zs.length) (hcell : ∀ i, i < zs.length → w.cell? (a.add i) = some (.int k (zs.getD i 0))) :
    Reads w Any 1 (some a) len ((zs.take len).map (Value.int k)) := by
  refine ⟨by simp; omega, fun hn => ?_⟩
  have h0 := hcell 0 (by omega)
  obtain ⟨x, o, rfl⟩ := add_none h0
  refine ⟨x, o, rfl, trivial, fun j u hu => ?_⟩
  have hj : j < len := by
    rcases Nat.lt_or_ge j len with h | h
    · exact h
    · rw [List.getElem?_eq_none (by simp; omega)] at hu; cases hu
  have := hcell j (by omega)
  rw [Addr.add_lit] at this
  rw [this, ← hu]
  simp [hj, List.getD, List.getElem?_eq_getElem (show j < zs.length by omega)]
theorem u8s_of_ints {zs : List Int} (h : ∀ n ∈ zs, (Lit.int .u8 n).wf = true) : zs.map (Value.int .u8) = u8s (zs.map b8) := by
  simp only [u8s, List.map_map]
  apply List.map_congr_left
  intro n hn
  simp [b8_back (h n hn)]

/-- an argument []byte -/
theorem open_bytes {t e : TypeId} {W : World} {base : Nat} {v : Value} {d : DataW H} {p : List MemPlace} (ht : P.underlying t = some (.slice e)) (he : P.underlying e = some (.int .u8)) (hc : P.cellsOf e = 1)
    (hv : Value.okWide P W .any base t v) (h : DataW.Trod enc P W 0 (fun _ => true) true t v d p) : ∃ A n c bs, v = .slice A n c ∧ n ≤ c ∧ c ≤ maxLen ∧ Reads W Any 1 A n (u8s bs) := by
  obtain ⟨A, n, c, rfl⟩ := okWide_slice ht hv
  obtain ⟨fuel, hf⟩ := h
  rcases open_ints ht he hc hf with ⟨hcs, _⟩ | ⟨x, l, c', zs, hcs, _, hl, hm, hz, _, hcell, hwz⟩
  · simp [Value.cells] at hcs
    obtain ⟨rfl, rfl, rfl⟩ := hcs
    exact ⟨_, _, _, [], rfl, Nat.le_refl _, Nat.zero_le _, Reads.empty⟩
  · simp [Value.cells] at hcs
    obtain ⟨rfl, rfl, rfl⟩ := hcs
    simp only [if_true] at hz
    have h1 := reads_of_ints (len := n) (by omega) hcell
    rw [u8s_of_ints (fun n hn => hwz n (List.mem_of_mem_take hn))] at h1
    exact ⟨_, _, _, _, rfl, hl, hm, h1⟩

/-- an argument [][]byte -/
theorem open_rows {t e q : TypeId} {W : World} {base : Nat} {v : Value} {d : DataW H} {p : List MemPlace} (ht : P.underlying t = some (.slice e)) (he : P.underlying e = some (.slice q)) (hq : P.underlying q = some (.int .u8)) (ce : P.cellsOf e = 1) (cq : P.cellsOf q = 1)
    (hv : Value.okWide P W .any base t v) (h : DataW.Trod enc P W 0 (fun _ => true) true t v d p) :
    ∃ A n c vss l, v = .slice A n c ∧ n = l.length ∧ n ≤ c ∧ c ≤ maxLen ∧ Reads W Any 1 A n vss.flatten ∧ All2 (BytesCell W Any) vss l := by
  obtain ⟨A, n, c, rfl⟩ := okWide_slice ht hv
  obtain ⟨fuel, hf⟩ := h
  rcases Go.Deep.open_int_rows ht he hq ce cq hf with ⟨hcs, _⟩ | ⟨x, l, c', AA, L, C, Z, hcs, _, hl, hm, _, hrow⟩
  · simp [Value.cells] at hcs
    obtain ⟨rfl, rfl, rfl⟩ := hcs
    exact ⟨_, _, _, [], [], rfl, rfl, Nat.le_refl _, Nat.zero_le _, Reads.empty, All2.nil⟩
  · simp [Value.cells] at hcs
    obtain ⟨rfl, rfl, rfl⟩ := hcs
    have hflat : ((List.range n).map fun r => [Value.slice (AA r) (L r) (C r)]).flatten = (List.range n).map fun r => Value.slice (AA r) (L r) (C r) := by
      generalize List.range n = rs
      induction rs with
      | nil => rfl
      | cons a r ih => simp [ih]
    refine ⟨_, _, _, (List.range n).map fun r => [Value.slice (AA r) (L r) (C r)], (List.range n).map fun r => ((Z r).take (L r)).map b8, rfl, by simp, hl, hm, ?_, by simp, fun i cs bs h1 h2 => ?_⟩
    · rw [hflat]
      refine ⟨by simp, fun hn => ?_⟩
      obtain ⟨b, o, rfl⟩ := add_none (hrow 0 (by omega)).1
      refine ⟨b, o, rfl, trivial, fun j u hu => ?_⟩
      have hj : j < n := by
        rcases Nat.lt_or_ge j n with h | h
        · exact h
        · rw [List.getElem?_eq_none (by simp; omega)] at hu; cases hu
      have := (hrow j (by omega)).1
      rw [Addr.add_lit] at this
      rw [this, ← hu]
      simp [hj]
    · have hi : i < n := by
        rcases Nat.lt_or_ge i n with h | h
        · exact h
        · rw [List.getElem?_eq_none (by simp; omega)] at h1; cases h1
      simp [hi] at h1 h2
      subst h1 h2
      obtain ⟨_, r1, r2, r3, r4, r5, r6⟩ := hrow i (by omega)
      refine ⟨_, rfl, _, _, _, rfl, r1, r2, ?_⟩
      rw [← List.map_take, ← u8s_of_ints (fun m hm => r4 m (List.mem_of_mem_take hm))]
      cases hA : AA i with
      | none =>
        have hc0 := r5 hA
        have hl0 : L i = 0 := by omega
        rw [hl0]
        exact Reads.empty
      | some a' => exact reads_of_ints (by omega) (fun c hc => (r6 a' hA).2 c (by omega))
end
end Go.Law
set_option linter.unusedVariables false
namespace Go.Val

/-! ### Numbers -/
def natG : Nat → Nat → List UInt8
  | 0, _ => []
  | f + 1, n => if n < 128 then [UInt8.ofNat n] else UInt8.ofNat (n % 128 + 128) :: natG f (n / 128)
def natE (n : Nat) : List UInt8 := natG 10 n
def natD : Nat → List UInt8 → Option (Nat × List UInt8)
  | _, [] => none
  | k, b :: r =>
    if (k = 9 ∧ 1 < b.toNat) ∨ (0 < k ∧ b.toNat = 0) then none
    else if b.toNat < 128 then some (b.toNat, r)
    else match natD (k + 1) r with
      | none => none
      | some (u, r') => some (b.toNat - 128 + 128 * u, r')

theorem ofNat_toNat {n : Nat} (h : n < 256) : (UInt8.ofNat n).toNat = n := by simp; omega
theorem toNat_ofNat (b : UInt8) : UInt8.ofNat b.toNat = b := by simp

theorem natD_back : ∀ (f k n : Nat) (r : List UInt8), f + k = 10 → k ≤ 9 → n < 2 ^ (64 - 7 * k) → (0 < k → 0 < n) → natD k (natG f n ++ r) = some (n, r)
  | 0, k, n, r, h, hk, _, _ => by omega
  | f + 1, k, n, r, h, hk, hn, h0 => by
    by_cases hs : n < 128
    · simp only [natG, hs, if_true, List.singleton_append, natD]
      rw [ofNat_toNat (by omega), if_neg, if_pos hs]
      rintro (⟨rfl, h1⟩ | ⟨h1, h2⟩)
      · simp at hn; omega
      · have := h0 h1; omega
    · have hk8 : k ≤ 8 := by
        rcases Nat.lt_or_ge k 9 with hh | hh
        · omega
        · obtain rfl : k = 9 := by omega
          simp at hn
          omega
      have hdiv : n / 128 < 2 ^ (64 - 7 * (k + 1)) := by
        have e : 2 ^ (64 - 7 * k) = 128 * 2 ^ (64 - 7 * (k + 1)) := by
          rw [show 64 - 7 * k = 7 + (64 - 7 * (k + 1)) by omega, Nat.pow_add]
        rw [e] at hn
        exact Nat.div_lt_of_lt_mul hn
      have hb : (UInt8.ofNat (n % 128 + 128)).toNat = n % 128 + 128 := ofNat_toNat (by omega)
      simp only [natG, hs, if_false, List.cons_append, natD]
      rw [hb, if_neg (by omega), if_neg (by omega), natD_back f (k + 1) (n / 128) r (by omega) (by omega) hdiv (fun _ => by omega)]
      simp only [Option.some.injEq, Prod.mk.injEq, and_true]
      omega
theorem natD_forth : ∀ (bs : List UInt8) (k n : Nat) (r : List UInt8), k ≤ 9 → natD k bs = some (n, r) → bs = natG (10 - k) n ++ r ∧ n < 2 ^ (64 - 7 * k) ∧ (0 < k → 0 < n)
  | [], k, n, r, hk, h => by simp [natD] at h
  | b :: t, k, n, r, hk, h => by
    have hb := UInt8.toNat_lt b
    obtain ⟨f, hf⟩ : ∃ f, 10 - k = f + 1 := ⟨9 - k, by omega⟩
    have e64 : 2 ^ (64 - 7 * k) ≥ 2 := by
      have : 1 ≤ 64 - 7 * k := by omega
      calc 2 ^ (64 - 7 * k) ≥ 2 ^ 1 := Nat.pow_le_pow_right (by omega) this
        _ = 2 := by rfl
    unfold natD at h
    split at h
    · cases h
    · rename_i hc
      split at h
      · rename_i hlt
        simp only [Option.some.injEq, Prod.mk.injEq] at h
        obtain ⟨rfl, rfl⟩ := h
        refine ⟨?_, ?_, fun h0 => ?_⟩
        · rw [hf]
          simp [natG, hlt]
        · rcases Nat.lt_or_ge k 9 with hh | hh
          · have : 2 ^ 8 ≤ 2 ^ (64 - 7 * k) := Nat.pow_le_pow_right (by omega) (by omega)
            omega
          · obtain rfl : k = 9 := by omega
            simp
            omega
        · omega
      · rename_i hge
        split at h
        · cases h
        · rename_i u r' hu
          simp only [Option.some.injEq, Prod.mk.injEq] at h
          obtain ⟨rfl, rfl⟩ := h
          have hk8 : k ≤ 8 := by
            rcases Nat.lt_or_ge k 9 with hh | hh
            · omega
            · obtain rfl : k = 9 := by omega
              omega
          obtain ⟨h1, h2, h3⟩ := natD_forth t (k + 1) u r' (by omega) hu
          have h3' := h3 (by omega)
          have e : 2 ^ (64 - 7 * k) = 128 * 2 ^ (64 - 7 * (k + 1)) := by
            rw [show 64 - 7 * k = 7 + (64 - 7 * (k + 1)) by omega, Nat.pow_add]
          refine ⟨?_, by rw [e]; omega, fun _ => by omega⟩
          rw [hf]
          have hm : (b.toNat - 128 + 128 * u) % 128 + 128 = b.toNat := by omega
          have hd : (b.toNat - 128 + 128 * u) / 128 = u := by omega
          rw [natG, if_neg (by omega), hm, hd, toNat_ofNat, h1, show 10 - (k + 1) = f by omega]
          rfl
theorem natE_len1 (n : Nat) : 1 ≤ (natE n).length := by
  unfold natE natG
  split <;> simp
theorem natG_len : ∀ (f n : Nat), (natG f n).length ≤ f
  | 0, _ => by simp [natG]
  | f + 1, n => by
    unfold natG
    split
    · simp
    · simp; exact natG_len f _
theorem natE_len (n : Nat) : (natE n).length ≤ 10 := natG_len 10 n

/-- zigzag -/
def zz (n : Int) : Nat := if 0 ≤ n then (2 * n).toNat else (-2 * n - 1).toNat
def unzz (u : Nat) : Int := if u % 2 = 0 then ((u / 2 : Nat) : Int) else -((u / 2 : Nat) : Int) - 1
theorem unzz_zz (n : Int) : unzz (zz n) = n := by
  unfold unzz zz
  split <;> split <;> omega
theorem zz_unzz (u : Nat) : zz (unzz u) = u := by
  unfold unzz zz
  split <;> split <;> omega
theorem zz_lt (n : Int) (h : -9223372036854775808 ≤ n ∧ n ≤ 9223372036854775807) : zz n < 18446744073709551616 := by
  unfold zz
  split <;> omega
theorem unzz_bd (u : Nat) (h : u < 18446744073709551616) : -9223372036854775808 ≤ unzz u ∧ unzz u ≤ 9223372036854775807 := by
  unfold unzz
  split <;> omega

def intE (n : Int) : List UInt8 := natE (zz n)
def textE (s : ByteArray) : List UInt8 := natE s.size ++ s.data.toList

/-- a natural number that fits an int -/
def lenD (bs : List UInt8) : Option (Nat × List UInt8) :=
  match natD 0 bs with
  | none => none
  | some (n, r) => if n ≤ 9223372036854775807 then some (n, r) else none
/-- .. and is not greater than the number of the bytes that are left -/
def countD (bs : List UInt8) : Option (Nat × List UInt8) :=
  match lenD bs with
  | none => none
  | some (n, r) => if n ≤ r.length then some (n, r) else none
def intD (bs : List UInt8) : Option (Int × List UInt8) :=
  match natD 0 bs with
  | none => none
  | some (u, r) => some (unzz u, r)
def textD (bs : List UInt8) : Option (ByteArray × List UInt8) :=
  match countD bs with
  | none => none
  | some (n, r) => some (⟨(r.take n).toArray⟩, r.drop n)
def manyD {α : Type} (dec : List UInt8 → Option (α × List UInt8)) : Nat → List UInt8 → Option (List α × List UInt8)
  | 0, bs => some ([], bs)
  | n + 1, bs => match dec bs with
    | none => none
    | some (x, r) => match manyD dec n r with
      | none => none
      | some (l, r') => some (x :: l, r')
def listD {α : Type} (dec : List UInt8 → Option (α × List UInt8)) (bs : List UInt8) : Option (List α × List UInt8) :=
  match countD bs with
  | none => none
  | some (n, r) => manyD dec n r
def listE {α : Type} (enc : α → List UInt8) (l : List α) : List UInt8 := natE l.length ++ l.flatMap enc

theorem natD0_back (n : Nat) (r : List UInt8) (h : n < 18446744073709551616) : natD 0 (natE n ++ r) = some (n, r) := natD_back 10 0 n r (by omega) (by omega) (by simpa using h) (by omega)
theorem natD0_forth {bs : List UInt8} {n : Nat} {r : List UInt8} (h : natD 0 bs = some (n, r)) : bs = natE n ++ r ∧ n < 18446744073709551616 := by
  obtain ⟨h1, h2, _⟩ := natD_forth bs 0 n r (by omega) h
  exact ⟨h1, by simpa using h2⟩
theorem lenD_back (n : Nat) (r : List UInt8) (h : n ≤ 9223372036854775807) : lenD (natE n ++ r) = some (n, r) := by
  unfold lenD
  rw [natD0_back n r (by omega)]
  simp [h]
theorem lenD_forth {bs : List UInt8} {n : Nat} {r : List UInt8} (h : lenD bs = some (n, r)) : bs = natE n ++ r ∧ n ≤ 9223372036854775807 := by
  unfold lenD at h
  split at h
  · cases h
  · rename_i n' r' he
    split at h
    · simp only [Option.some.injEq, Prod.mk.injEq] at h
      obtain ⟨rfl, rfl⟩ := h
      exact ⟨(natD0_forth he).1, by assumption⟩
    · cases h
theorem countD_back (n : Nat) (r : List UInt8) (h : n ≤ 9223372036854775807) (hr : n ≤ r.length) : countD (natE n ++ r) = some (n, r) := by
  unfold countD
  rw [lenD_back n r h]
  simp [hr]
theorem countD_forth {bs : List UInt8} {n : Nat} {r : List UInt8} (h : countD bs = some (n, r)) : bs = natE n ++ r ∧ n ≤ 9223372036854775807 ∧ n ≤ r.length := by
  unfold countD at h
  split at h
  · cases h
  · rename_i n' r' he
    split at h
    · simp only [Option.some.injEq, Prod.mk.injEq] at h
      obtain ⟨rfl, rfl⟩ := h
      exact ⟨(lenD_forth he).1, (lenD_forth he).2, by assumption⟩
    · cases h
theorem intD_back (n : Int) (r : List UInt8) (h : -9223372036854775808 ≤ n ∧ n ≤ 9223372036854775807) : intD (intE n ++ r) = some (n, r) := by
  unfold intD intE
  rw [natD0_back _ r (zz_lt n h)]
  simp [unzz_zz]
theorem intD_forth {bs : List UInt8} {n : Int} {r : List UInt8} (h : intD bs = some (n, r)) : bs = intE n ++ r ∧ -9223372036854775808 ≤ n ∧ n ≤ 9223372036854775807 := by
  unfold intD at h
  split at h
  · cases h
  · rename_i u r' he
    simp only [Option.some.injEq, Prod.mk.injEq] at h
    obtain ⟨rfl, rfl⟩ := h
    obtain ⟨h1, h2⟩ := natD0_forth he
    exact ⟨by rw [h1, intE, zz_unzz], unzz_bd u h2⟩
theorem textD_back (s : ByteArray) (r : List UInt8) (h : s.size ≤ 9223372036854775807) : textD (textE s ++ r) = some (s, r) := by
  unfold textD textE
  have hl : s.data.toList.length = s.size := by rw [Array.length_toList]; rfl
  rw [List.append_assoc, countD_back _ _ h (by rw [List.length_append]; omega)]
  simp only [Option.some.injEq, Prod.mk.injEq]
  refine ⟨?_, ?_⟩
  · rw [← hl, List.take_left]
  · rw [← hl, List.drop_left]
theorem textD_forth {bs : List UInt8} {s : ByteArray} {r : List UInt8} (h : textD bs = some (s, r)) : bs = textE s ++ r ∧ s.size ≤ 9223372036854775807 := by
  unfold textD at h
  split at h
  · cases h
  · rename_i n r' he
    simp only [Option.some.injEq, Prod.mk.injEq] at h
    obtain ⟨rfl, rfl⟩ := h
    obtain ⟨h1, h2, h3⟩ := countD_forth he
    have hsz : (⟨(r'.take n).toArray⟩ : ByteArray).size = n := by
      show (r'.take n).toArray.size = n
      simp
      omega
    refine ⟨?_, by omega⟩
    rw [textE, hsz, h1, List.append_assoc]
    congr 1
    exact (List.take_append_drop n r').symm
theorem manyD_back {α : Type} {enc : α → List UInt8} {dec : List UInt8 → Option (α × List UInt8)} : ∀ (l : List α) (r : List UInt8), (∀ x ∈ l, ∀ r, dec (enc x ++ r) = some (x, r)) → manyD dec l.length (l.flatMap enc ++ r) = some (l, r)
  | [], r, _ => rfl
  | x :: l, r, h => by
    simp only [List.length_cons, List.flatMap_cons, List.append_assoc, manyD]
    rw [h x (by simp)]
    simp only
    rw [manyD_back l r fun y hy => h y (by simp [hy])]
theorem manyD_forth {α : Type} {enc : α → List UInt8} {dec : List UInt8 → Option (α × List UInt8)} (hd : ∀ bs x r, dec bs = some (x, r) → bs = enc x ++ r) : ∀ (n : Nat) (bs : List UInt8) (l : List α) (r : List UInt8), manyD dec n bs = some (l, r) → bs = l.flatMap enc ++ r ∧ l.length = n
  | 0, bs, l, r, h => by
    simp only [manyD, Option.some.injEq, Prod.mk.injEq] at h
    obtain ⟨rfl, rfl⟩ := h
    simp
  | n + 1, bs, l, r, h => by
    unfold manyD at h
    split at h
    · cases h
    · rename_i x r1 hx
      split at h
      · cases h
      · rename_i l' r2 hl
        simp only [Option.some.injEq, Prod.mk.injEq] at h
        obtain ⟨rfl, rfl⟩ := h
        obtain ⟨h1, h2⟩ := manyD_forth hd n r1 l' r2 hl
        refine ⟨?_, by simp [h2]⟩
        rw [hd _ _ _ hx, h1]
        simp
theorem listD_back {α : Type} {enc : α → List UInt8} {dec : List UInt8 → Option (α × List UInt8)} (l : List α) (r : List UInt8) (h : ∀ x ∈ l, ∀ r, dec (enc x ++ r) = some (x, r)) (h1 : ∀ x ∈ l, 1 ≤ (enc x).length) (hl : l.length ≤ 9223372036854775807) :
    listD dec (listE enc l ++ r) = some (l, r) := by
  have hlen : l.length ≤ (l.flatMap enc).length := by
    clear h hl
    induction l with
    | nil => simp
    | cons x l ih =>
      have := ih fun y hy => h1 y (by simp [hy])
      have := h1 x (by simp)
      simp only [List.flatMap_cons, List.length_append, List.length_cons]
      omega
  unfold listD listE
  rw [List.append_assoc, countD_back _ _ hl (by rw [List.length_append]; omega)]
  exact manyD_back l r h
theorem listD_forth {α : Type} {enc : α → List UInt8} {dec : List UInt8 → Option (α × List UInt8)} (hd : ∀ bs x r, dec bs = some (x, r) → bs = enc x ++ r) {bs : List UInt8} {l : List α} {r : List UInt8} (h : listD dec bs = some (l, r)) : bs = listE enc l ++ r ∧ l.length ≤ 9223372036854775807 := by
  unfold listD at h
  split at h
  · cases h
  · rename_i n r' he
    obtain ⟨h1, h2, h3⟩ := countD_forth he
    obtain ⟨h4, h5⟩ := manyD_forth hd n r' l r h
    refine ⟨?_, by omega⟩
    rw [h1, listE, h5, h4]
    simp

/-! ### Values -/
inductive V where
  | mk (kind num : Int) (text : ByteArray) (args : List V)

def V.kind : V → Int | .mk k _ _ _ => k
def V.num : V → Int | .mk _ n _ _ => n
def V.text : V → ByteArray | .mk _ _ t _ => t
def V.args : V → List V | .mk _ _ _ a => a
/-- encoded, to a depth -/
def encV : Nat → V → List UInt8
  | 0, _ => []
  | d + 1, .mk k n t a => UInt8.ofNat k.toNat :: (intE n ++ (textE t ++ listE (encV d) a))
def decV : Nat → List UInt8 → Option (V × List UInt8)
  | 0, _ => none
  | _ + 1, [] => none
  | d + 1, k :: bs => match intD bs with
    | none => none
    | some (n, r1) => match textD r1 with
      | none => none
      | some (t, r2) => match listD (decV d) r2 with
        | none => none
        | some (a, r3) => some (.mk k.toNat n t a, r3)
/-- a value of at most a depth, all of whose parts fit -/
def okV : Nat → V → Prop
  | 0, _ => False
  | d + 1, .mk k n t a => (0 ≤ k ∧ k ≤ 255) ∧ (-9223372036854775808 ≤ n ∧ n ≤ 9223372036854775807) ∧ t.size ≤ 9223372036854775807 ∧ a.length ≤ 9223372036854775807 ∧ ∀ x ∈ a, okV d x

theorem encV_len1 (d : Nat) (v : V) (h : okV d v) : 4 ≤ (encV d v).length := by
  cases d with
  | zero => exact h.elim
  | succ d =>
    obtain ⟨k, n, t, a⟩ := v
    have h1 := natE_len1 (zz n)
    have h2 := natE_len1 t.size
    have h3 := natE_len1 a.length
    simp only [encV, intE, textE, listE, List.length_cons, List.length_append]
    omega
theorem decV_back : ∀ (d : Nat) (v : V) (r : List UInt8), okV d v → decV d (encV d v ++ r) = some (v, r)
  | 0, v, r, h => h.elim
  | d + 1, .mk k n t a, r, h => by
    obtain ⟨hk, hn, ht, hl, ha⟩ := h
    have e1 := intD_back n (textE t ++ (listE (encV d) a ++ r)) hn
    have e2 := textD_back t (listE (encV d) a ++ r) ht
    have e3 := listD_back a r (fun x hx r => decV_back d x r (ha x hx)) (fun x hx => by have := encV_len1 d x (ha x hx); omega) hl
    simp only [encV, List.cons_append, List.append_assoc, decV]
    rw [e1]
    simp only
    rw [e2]
    simp only
    rw [e3]
    simp only [Option.some.injEq, Prod.mk.injEq, and_true, V.mk.injEq]
    rw [ofNat_toNat (by omega)]
    omega
theorem decV_forth : ∀ (d : Nat) (bs : List UInt8) (v : V) (r : List UInt8), decV d bs = some (v, r) → bs = encV d v ++ r
  | 0, bs, v, r, h => by simp [decV] at h
  | d + 1, [], v, r, h => by simp [decV] at h
  | d + 1, k :: bs, v, r, h => by
    unfold decV at h
    split at h
    · cases h
    · rename_i n r1 h1
      split at h
      · cases h
      · rename_i t r2 h2
        split at h
        · cases h
        · rename_i a r3 h3
          simp only [Option.some.injEq, Prod.mk.injEq] at h
          obtain ⟨rfl, rfl⟩ := h
          obtain ⟨e1, _⟩ := intD_forth h1
          obtain ⟨e2, _⟩ := textD_forth h2
          obtain ⟨e3, _⟩ := listD_forth (enc := encV d) (decV_forth d) h3
          simp only [encV, Int.toNat_natCast, toNat_ofNat, List.cons_append, List.append_assoc]
          rw [e1, e2, e3]
end Go.Val
