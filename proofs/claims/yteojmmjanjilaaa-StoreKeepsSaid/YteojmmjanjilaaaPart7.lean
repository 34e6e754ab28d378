/- Plain laws of the encoding of letters, inputs, saved actors and parcels: what is decoded out of an encoding is what was encoded. · Contracts of the writers of package wire: a number, an integer, a text behind a row of the call's own. -/
import Derived.Test.YteojmmjanjilaaaRd
import Derived.Test.YteojmmjanjilaaaPart5
import Derived.Test.YteojmmjanjilaaaPart3
set_option linter.unusedVariables false
namespace Go.Val
/-- one decoder behind another -/
def seqD {α β : Type} (dec : List UInt8 → Option (α × List UInt8)) (k : α → List UInt8 → Option (β × List UInt8)) (bs : List UInt8) : Option (β × List UInt8) := (dec bs).bind fun p => k p.1 p.2
def retD {α : Type} (x : α) (bs : List UInt8) : Option (α × List UInt8) := some (x, bs)
/-- the state behind a first reading is where the rest goes on -/
theorem seq_on {α β : Type} {dec : List UInt8 → Option (α × List UInt8)} (k : α → List UInt8 → Option (β × List UInt8)) {bad bad1 : Bool} {bs bs1 : List UInt8} {x : α} (h : (okS bad bs).bind dec = okS bad1 (x, bs1)) : (okS bad bs).bind (seqD dec k) = (okS bad1 bs1).bind (k x) := by
  cases bad with
  | true =>
    cases bad1 with
    | true => rfl
    | false => simp [okS] at h
  | false =>
    simp only [okS, Bool.false_eq_true, if_false, Option.bind_some, seqD] at h ⊢
    rw [h]
    cases bad1 with
    | true => rfl
    | false => rfl
theorem ret_on {α : Type} (x : α) (bad : Bool) (bs : List UInt8) : (okS bad bs).bind (retD x) = okS bad (x, bs) := by cases bad <;> rfl
theorem seqD_back {α β : Type} {dec : List UInt8 → Option (α × List UInt8)} {k : α → List UInt8 → Option (β × List UInt8)} {e r : List UInt8} {x : α} (h : dec (e ++ r) = some (x, r)) : seqD dec k (e ++ r) = k x r := by
  unfold seqD
  rw [h]
  rfl
def byteE (k : Int) : List UInt8 := [UInt8.ofNat k.toNat]
theorem byteD_back (k : Int) (r : List UInt8) (h : 0 ≤ k ∧ k ≤ 255) : byteD (byteE k ++ r) = some (k, r) := by
  simp only [byteE, List.singleton_append, byteD, Option.some.injEq, Prod.mk.injEq, and_true]
  rw [ofNat_toNat (by omega)]
  omega
/-- a natural number as an int -/
def natI (n : Int) : List UInt8 := natE n.toNat
def lenI (bs : List UInt8) : Option (Int × List UInt8) := (lenD bs).map fun p => ((p.1 : Int), p.2)
theorem lenI_back (n : Int) (r : List UInt8) (h : 0 ≤ n ∧ n ≤ 9223372036854775807) : lenI (natI n ++ r) = some (n, r) := by
  unfold lenI natI
  rw [lenD_back n.toNat r (by omega)]
  simp
  omega
theorem lenI_on {bad bad1 : Bool} {bs bs1 : List UInt8} {x : Nat} (h : (okS bad bs).bind lenD = okS bad1 (x, bs1)) : (okS bad bs).bind lenI = okS bad1 ((x : Int), bs1) := by
  cases bad with
  | true =>
    cases bad1 with
    | true => rfl
    | false => simp [okS] at h
  | false =>
    simp only [okS, Bool.false_eq_true, if_false, Option.bind_some, lenI] at h ⊢
    rw [h]
    cases bad1 <;> rfl
def zeroV : V := .mk 0 0 ⟨#[]⟩ []

structure L where
  kind : Int
  from_ : Int
  to_ : Int
  num : Int
  text : ByteArray
  val : V
def okN (n : Int) : Prop := 0 ≤ n ∧ n ≤ 9223372036854775807
def okL (d : Nat) (l : L) : Prop := (0 ≤ l.kind ∧ l.kind ≤ 255) ∧ okN l.from_ ∧ okN l.to_ ∧ okN l.num ∧ l.text.size ≤ 9223372036854775807 ∧ (l.kind = 1 → okV d l.val) ∧ (l.kind ≠ 1 → l.val = zeroV)
def encL (d : Nat) (l : L) : List UInt8 := byteE l.kind ++ (natI l.from_ ++ (natI l.to_ ++ (natI l.num ++ (textE l.text ++ if l.kind = 1 then encV d l.val else []))))
def decL (d : Nat) : List UInt8 → Option (L × List UInt8) :=
  seqD byteD fun k => seqD lenI fun f => seqD lenI fun t => seqD lenI fun n => seqD textD fun s => if k = 1 then seqD (decV d) fun v => retD ⟨k, f, t, n, s, v⟩ else retD ⟨k, f, t, n, s, zeroV⟩
theorem decL_back (d : Nat) (l : L) (r : List UInt8) (h : okL d l) : decL d (encL d l ++ r) = some (l, r) := by
  obtain ⟨hk, hf, ht, hn, hs, h1, h2⟩ := h
  unfold decL encL
  rw [List.append_assoc, seqD_back (byteD_back l.kind _ hk), List.append_assoc, seqD_back (lenI_back l.from_ _ hf), List.append_assoc, seqD_back (lenI_back l.to_ _ ht), List.append_assoc, seqD_back (lenI_back l.num _ hn), List.append_assoc, seqD_back (textD_back l.text _ hs)]
  by_cases hk1 : l.kind = 1
  · rw [if_pos hk1, if_pos hk1, seqD_back (decV_back d l.val r (h1 hk1))]
    rfl
  · rw [if_neg hk1, if_neg hk1, List.nil_append]
    have := h2 hk1
    obtain ⟨a, b, c, e, f, g⟩ := l
    simp only at this
    subst this
    rfl
theorem encL_len1 (d : Nat) (l : L) : 1 ≤ (encL d l).length := by
  unfold encL byteE
  simp

structure In where
  kind : Int
  val : V
def okIn (d : Nat) (i : In) : Prop := (0 ≤ i.kind ∧ i.kind ≤ 255) ∧ (i.kind ≠ 3 → okV d i.val) ∧ (i.kind = 3 → i.val = zeroV)
def encI (d : Nat) (i : In) : List UInt8 := byteE i.kind ++ if i.kind = 3 then [] else encV d i.val
def decI (d : Nat) : List UInt8 → Option (In × List UInt8) := seqD byteD fun k => if k = 3 then retD ⟨k, zeroV⟩ else seqD (decV d) fun v => retD ⟨k, v⟩
theorem decI_back (d : Nat) (i : In) (r : List UInt8) (h : okIn d i) : decI d (encI d i ++ r) = some (i, r) := by
  obtain ⟨hk, h1, h2⟩ := h
  unfold decI encI
  rw [List.append_assoc, seqD_back (byteD_back i.kind _ hk)]
  by_cases hk3 : i.kind = 3
  · rw [if_pos hk3, if_pos hk3, List.nil_append]
    have := h2 hk3
    obtain ⟨a, b⟩ := i
    simp only at this
    subst this
    rfl
  · rw [if_neg hk3, if_neg hk3, seqD_back (decV_back d i.val r (h1 hk3))]
    rfl
theorem encI_len1 (d : Nat) (i : In) : 1 ≤ (encI d i).length := by
  unfold encI byteE
  simp

structure Sv where
  actor : ByteArray
  state : List V
  inputs : List In
def okSv (d : Nat) (s : Sv) : Prop := s.actor.size ≤ 9223372036854775807 ∧ (s.state.length ≤ 9223372036854775807 ∧ ∀ v ∈ s.state, okV d v) ∧ s.inputs.length ≤ 9223372036854775807 ∧ ∀ i ∈ s.inputs, okIn d i
def encS (d : Nat) (s : Sv) : List UInt8 := textE s.actor ++ (listE (encV d) s.state ++ listE (encI d) s.inputs)
def decS (d : Nat) : List UInt8 → Option (Sv × List UInt8) := seqD textD fun a => seqD (listD (decV d)) fun s => seqD (listD (decI d)) fun i => retD ⟨a, s, i⟩
theorem decS_back (d : Nat) (s : Sv) (r : List UInt8) (h : okSv d s) : decS d (encS d s ++ r) = some (s, r) := by
  obtain ⟨ha, ⟨hsl, hs⟩, hil, hi⟩ := h
  unfold decS encS
  rw [List.append_assoc, seqD_back (textD_back s.actor _ ha), List.append_assoc, seqD_back (listD_back s.state _ (fun x hx r => decV_back d x r (hs x hx)) (fun x hx => by have := encV_len1 d x (hs x hx); omega) hsl), seqD_back (listD_back s.inputs _ (fun x hx r => decI_back d x r (hi x hx)) (fun x hx => encI_len1 d x) hil)]
  rfl

structure Pc where
  ref : Int
  saved : Sv
  box : List L
  ticks : Int
  watches : List Int
  links : List Int
def okP (d : Nat) (p : Pc) : Prop := okN p.ref ∧ okSv d p.saved ∧ (p.box.length ≤ 9223372036854775807 ∧ ∀ l ∈ p.box, okL d l) ∧ (-9223372036854775808 ≤ p.ticks ∧ p.ticks ≤ 9223372036854775807) ∧ (p.watches.length ≤ 9223372036854775807 ∧ ∀ n ∈ p.watches, okN n) ∧ p.links.length ≤ 9223372036854775807 ∧ ∀ n ∈ p.links, okN n
def encP (d : Nat) (p : Pc) : List UInt8 := natI p.ref ++ (encS d p.saved ++ (listE (encL d) p.box ++ (intE p.ticks ++ (listE natI p.watches ++ listE natI p.links))))
def decP (d : Nat) : List UInt8 → Option (Pc × List UInt8) :=
  seqD lenI fun n => seqD (decS d) fun s => seqD (listD (decL d)) fun b => seqD intD fun t => seqD (listD lenI) fun w => seqD (listD lenI) fun l => retD ⟨n, s, b, t, w, l⟩
theorem natI_len1 (n : Int) : 1 ≤ (natI n).length := natE_len1 _
theorem decP_back (d : Nat) (p : Pc) (r : List UInt8) (h : okP d p) : decP d (encP d p ++ r) = some (p, r) := by
  obtain ⟨hn, hs, ⟨hbl, hb⟩, ht, ⟨hwl, hw⟩, hll, hl⟩ := h
  unfold decP encP
  rw [List.append_assoc, seqD_back (lenI_back p.ref _ hn), List.append_assoc, seqD_back (decS_back d p.saved _ hs), List.append_assoc, seqD_back (listD_back p.box _ (fun x hx r => decL_back d x r (hb x hx)) (fun x hx => encL_len1 d x) hbl), List.append_assoc, seqD_back (intD_back p.ticks _ ht), List.append_assoc,
    seqD_back (listD_back p.watches _ (fun x hx r => lenI_back x r (hw x hx)) (fun x hx => natI_len1 x) hwl), seqD_back (listD_back p.links _ (fun x hx r => lenI_back x r (hl x hx)) (fun x hx => natI_len1 x) hll)]
  rfl
end Go.Val
set_option linter.unusedVariables false
namespace Go.Proofs.Yteojmmjanjilaaa
open Go.RowKit Go.Mem Go.Val

/-- the slice v' is the row v with so much behind it; nothing else of w has turned -/
def Grew (w : World) (base : Nat) (v : Value) (xs : List Value) (w' : World) (v' : Value) (bs : List UInt8) : Prop :=
  w'.ownsRow base 5 1 v' (xs.length + bs.length) (xs ++ u8s bs) ∧ w.grownBy w' v.ownBlock ∧ (v'.ownBlock = v.ownBlock ∨ ∀ b, v'.ownBlock = some b → w.heap.size ≤ b)
theorem Grew.refl {w : World} {base : Nat} {v : Value} {xs : List Value} (h : w.ownsRow base 5 1 v xs.length xs) : Grew w base v xs w v [] := by
  refine ⟨by simpa [u8s] using h, World.grownBy.refl w _, .inl rfl⟩
theorem Grew.trans {w w1 w2 : World} {base : Nat} {v v1 v2 : Value} {xs : List Value} {a b : List UInt8} (h : Grew w base v xs w1 v1 a) (k : Grew w1 base v1 (xs ++ u8s a) w2 v2 b) : Grew w base v xs w2 v2 (a ++ b) := by
  obtain ⟨h1, h2, h3⟩ := h
  obtain ⟨k1, k2, k3⟩ := k
  refine ⟨?_, ⟨k2.os.trans h2.os, k2.tape.trans h2.tape, k2.output.trans h2.output, Nat.le_trans h2.size k2.size, fun i hi hne => (k2.block i (Nat.lt_of_lt_of_le hi h2.size) (fun e => ?_)).trans (h2.block i hi hne)⟩, ?_⟩
  · have e1 : (xs ++ u8s a).length + b.length = xs.length + (a ++ b).length := by simp [u8s_length]; omega
    rw [e1] at k1
    simpa [u8s_append] using k1
  · rcases h3 with h3 | h3
    · rw [h3] at e; exact hne e
    · have := h3 i e.symm; omega
  · rcases k3 with k3 | k3
    · rw [k3]; exact h3
    · exact .inr fun b hb => Nat.le_trans h2.size (k3 b hb)
theorem Grew.form {w w' : World} {base : Nat} {v v' : Value} {xs : List Value} {bs : List UInt8} (h : Grew w base v xs w' v' bs) : ∃ A c, v' = .slice A (xs.length + bs.length) c := by
  obtain ⟨A, c, e, _⟩ := own_form h.1
  exact ⟨A, c, e⟩
/-- behind an append of new bytes -/
theorem Grew.step {w w1 w2 : World} {base : Nat} {v v1 v2 : Value} {xs : List Value} {a : List UInt8} {o : Obj} (h : Grew w base v xs w1 v1 a) {b : List UInt8} {m : Nat} (hm : m = b.length) {news : List Value} (hn : news = u8s b)
    (k1 : w2.ownsRow base 5 1 v2 (xs.length + a.length + m) (xs ++ u8s a ++ news)) (k2 : (w1.alloc o).grownBy w2 v1.ownBlock) (k3 : v2.ownBlock = v1.ownBlock ∨ v2.ownBlock = some (w1.alloc o).heap.size) : Grew w base v xs w2 v2 (a ++ b) := by
  subst hm hn
  refine h.trans ⟨?_, ?_, ?_⟩
  · have e1 : (xs ++ u8s a).length + b.length = xs.length + a.length + b.length := by simp [u8s_length]
    rw [e1]
    exact k1
  · exact ⟨k2.os, k2.tape, k2.output, by have := k2.size; simp at this; omega, fun i hi hne => (k2.block i (by simp; omega) hne).trans (Below.heap_alloc w1 o i hi)⟩
  · rcases k3 with k3 | k3
    · exact .inl k3
    · exact .inr fun b hb => by rw [k3] at hb; simp at hb; omega
theorem Grew.step0 {w w1 w2 : World} {base : Nat} {v v1 v2 : Value} {xs : List Value} {a : List UInt8} (h : Grew w base v xs w1 v1 a) {b : List UInt8} {m : Nat} (hm : m = b.length) {news : List Value} (hn : news = u8s b)
    (k1 : w2.ownsRow base 5 1 v2 (xs.length + a.length + m) (xs ++ u8s a ++ news)) (k2 : w1.grownBy w2 v1.ownBlock) (k3 : v2.ownBlock = v1.ownBlock ∨ v2.ownBlock = some w1.heap.size) : Grew w base v xs w2 v2 (a ++ b) := by
  subst hm hn
  refine h.trans ⟨?_, k2, ?_⟩
  · have e1 : (xs ++ u8s a).length + b.length = xs.length + a.length + b.length := by simp [u8s_length]
    rw [e1]
    exact k1
  · rcases k3 with k3 | k3
    · exact .inl k3
    · exact .inr fun b hb => by rw [k3] at hb; simp at hb; omega

def GrewPost (w : World) (base : Nat) (v : Value) (xs : List Value) (bs : List UInt8) (e : Ending) (w' : World) : Prop := ∃ A c, e = .returned (.slice A (xs.length + bs.length) c) ∧ Grew w base v xs w' (.slice A (xs.length + bs.length) c) bs

theorem or128 (x : Nat) : bits .or .u8 ((x : Int) % 256) 128 = ((x % 128 + 128 : Nat) : Int) := by
  have e1 : (BitVec.ofInt 8 ((x : Int) % 256)).toNat = x % 256 := by
    rw [show ((x : Int) % 256) = ((x % 256 : Nat) : Int) by omega, BitVec.ofInt_natCast, BitVec.toNat_ofNat]; omega
  have e2 : (BitVec.ofInt 8 128).toNat = 128 := by decide
  show IntKind.u8.wrap ((BitVec.ofInt 8 ((x : Int) % 256) ||| BitVec.ofInt 8 128).toNat : Int) = _
  rw [BitVec.toNat_or, e1, e2]
  have e3 : x % 256 ||| 128 = x % 128 + 128 := by
    rw [show x % 256 = 2 ^ 7 * (x / 128 % 2) + x % 128 by omega, Nat.two_pow_add_eq_or_of_lt (i := 7) (by omega), Nat.or_assoc, Nat.or_comm (x % 128) 128, ← Nat.or_assoc]
    have h2 : 2 ^ 7 * (x / 128 % 2) ||| 128 = 128 := by
      rcases Nat.mod_two_eq_zero_or_one (x / 128) with h | h <;> rw [h] <;> rfl
    rw [h2, show (128 : Nat) = 2 ^ 7 * 1 by rfl, ← Nat.two_pow_add_eq_or_of_lt (i := 7) (by omega)]
    omega
  rw [e3]
  exact IntWalk.u8_in _ (by omega)

set_option maxRecDepth 100000 in
set_option maxHeartbeats 1000000 in
theorem unsigned_any (v : Value) (u : Nat) (xs : List Value) (base : Nat) (w : World) (hu : u < 18446744073709551616) (hown : w.ownsRow base 5 1 v xs.length xs) (hb : base ≤ w.heap.size) (hx : xs.length ≤ 1099511627776) :
    Calls Try.prog 80 #[v, .int .u64 u] w (GrewPost w base v xs (natE u)) := by
  have Hx := Lib.hid hx
  have Hu := Lib.hid hu
  clear hx hu
  go_enter Try.func80, Try.ntmps80
  go_wp2
  go_loopw [0, 1] (fun v1 i wr => ∃ (j u1 : Nat) (a : List UInt8), j ≤ 9 ∧ a.length = j ∧ i = .int .u64 u1 ∧ Hid (u1 < 2 ^ (64 - 7 * j)) ∧ Hid (natE u = a ++ natG (10 - j) u1) ∧ Grew w base v xs wr v1 a) (fun _ i _ => (intOf i).toNat)
  case atStart => exact ⟨0, u, [], by omega, rfl, rfl, by have := Hu.out; unfold Hid; simpa using this, by unfold Hid natE; simp, Grew.refl hown⟩
  case round =>
    obtain ⟨j, u1, a, hj, ha, rfl, hlt, hnat, hg⟩ := hrel
    have Ha := Lib.hid ha
    clear ha
    by_cases h : 128 ≤ u1
    · go_wp2_with (at_builtin; refine app_u8 _ rfl (.tmp 9) (.tmp 13) rfl (hg.1.alloc _) rfl (Reads.new (D := Any) _ _ 1 1 _ trivial rfl) rfl (by simp [Value.oneCell']) (by have := Hx.out; have := Ha.out; omega) (by have := hg.2.1.size; simp; omega) ?_; intro v2 w2 hown2 hg2 hat2)
      have hj8 : j ≤ 8 := by
        rcases Nat.lt_or_ge j 9 with hh | hh
        · omega
        · obtain rfl : j = 9 := by omega
          have := hlt.out
          simp at this
          omega
      refine ⟨⟨j + 1, u1 / 128, a ++ [UInt8.ofNat (u1 % 128 + 128)], by omega, by have := Ha.out; simp; omega, by go_num, ?_, ?_, hg.step (by rfl) ?_ hown2 hg2 hat2⟩, by simp [intOf]; omega⟩
      · have h1 := hlt.out
        have e : 2 ^ (64 - 7 * j) = 128 * 2 ^ (64 - 7 * (j + 1)) := by
          rw [show 64 - 7 * j = 7 + (64 - 7 * (j + 1)) by omega, Nat.pow_add]
        rw [e] at h1
        exact Nat.div_lt_of_lt_mul h1
      · unfold Hid
        rw [hnat.out, show 10 - j = (10 - (j + 1)) + 1 by omega, natG, if_neg (by omega)]
        simp
      · rw [or128]
        simp only [u8s, List.map_cons, List.map_nil]
        rw [ofNat_toNat (by omega)]
    · go_wp2_with (at_builtin; refine app_u8 _ rfl (.tmp 15) (.tmp 18) rfl (hg.1.alloc _) rfl (Reads.new (D := Any) _ _ 1 1 _ trivial rfl) rfl (by simp [Value.oneCell']) (by have := Hx.out; have := Ha.out; omega) (by have := hg.2.1.size; simp; omega) ?_; intro v2 w2 hown2 hg2 hat2)
      go_ret
      have hfin : Grew w base v xs w2 v2 (a ++ [UInt8.ofNat u1]) := hg.step (by rfl) (by simp only [u8s, List.map_cons, List.map_nil]; rw [ofNat_toNat (by omega)]) hown2 hg2 hat2
      have e : natE u = a ++ [UInt8.ofNat u1] := by
        rw [hnat.out, show 10 - j = (9 - j) + 1 by omega, natG, if_pos (by omega)]
      rw [e]
      obtain ⟨A2, c2, rfl⟩ := hfin.form
      exact ⟨A2, c2, rfl, hfin⟩

set_option maxRecDepth 100000 in
theorem nat_any (v : Value) (u : Nat) (xs : List Value) (base : Nat) (w : World) (hu : u ≤ 9223372036854775807) (hown : w.ownsRow base 5 1 v xs.length xs) (hb : base ≤ w.heap.size) (hx : xs.length ≤ 1099511627776) :
    Calls Try.prog 64 #[v, .int .i64 u] w (GrewPost w base v xs (natE u)) := by
  go_enter Try.func64, Try.ntmps64
  go_wp2_with (fail)
  refine (unsigned_any v u xs base w (by omega) hown hb hx).mono ?_
  rintro e w1 ⟨A1, c1, rfl, hg⟩
  go_wp2
  go_ret
  exact ⟨A1, c1, rfl, hg⟩

theorem zz_bits (n : Int) (hn : Fits64 n) : bits .xor .u64 (IntKind.u64.wrap (IntKind.u64.wrap n * 2)) (IntKind.u64.wrap (n / 9223372036854775808)) = ((zz n : Nat) : Int) := by
  obtain ⟨h1, h2⟩ := hn
  have hw : ∀ x : Int, IntKind.u64.wrap x = x % 18446744073709551616 := fun x => IntKind.wrap_u64 x
  have e0 : IntKind.u64.wrap (IntKind.u64.wrap n * 2) = (((2 * n) % 18446744073709551616).toNat : Int) := by rw [hw, hw]; omega
  unfold zz
  by_cases h : 0 ≤ n
  · have e1 : IntKind.u64.wrap (n / 9223372036854775808) = ((0 : Nat) : Int) := by rw [hw]; omega
    rw [if_pos h, e0, e1]
    show IntKind.u64.wrap ((BitVec.ofInt 64 _ ^^^ BitVec.ofInt 64 _).toNat : Int) = _
    rw [BitVec.toNat_xor, BitVec.ofInt_natCast, BitVec.ofInt_natCast, BitVec.toNat_ofNat, BitVec.toNat_ofNat, hw]
    simp only [Nat.zero_mod, Nat.xor_zero]
    omega
  · have e1 : IntKind.u64.wrap (n / 9223372036854775808) = ((18446744073709551615 : Nat) : Int) := by rw [hw]; omega
    rw [if_neg h, e0, e1]
    show IntKind.u64.wrap ((BitVec.ofInt 64 _ ^^^ BitVec.ofInt 64 _).toNat : Int) = _
    rw [BitVec.ofInt_natCast, BitVec.ofInt_natCast, show BitVec.ofNat 64 18446744073709551615 = BitVec.allOnes 64 from rfl, BitVec.xor_allOnes, BitVec.toNat_not, BitVec.toNat_ofNat, hw]
    omega

set_option maxRecDepth 100000 in
theorem int_any (v : Value) (n : Int) (xs : List Value) (base : Nat) (w : World) (hn : Fits64 n) (hown : w.ownsRow base 5 1 v xs.length xs) (hb : base ≤ w.heap.size) (hx : xs.length ≤ 1099511627776) :
    Calls Try.prog 67 #[v, .int .i64 n] w (GrewPost w base v xs (intE n)) := by
  have hzz := zz_bits n hn
  have hlt := zz_lt n hn
  obtain ⟨hn1, hn2⟩ := hn
  have Hz := Lib.hid hzz
  clear hzz
  go_enter Try.func67, Try.ntmps67
  go_wp2_with (fail)
  rw [Hz.out]
  refine (unsigned_any v (zz n) xs base w hlt hown hb hx).mono ?_
  rintro e w1 ⟨A1, c1, rfl, hg⟩
  go_wp2
  go_ret
  exact ⟨A1, c1, rfl, hg⟩

set_option maxRecDepth 100000 in
theorem wtext_any (v : Value) (s : ByteArray) (xs : List Value) (base : Nat) (w : World) (hs : s.size ≤ 1099511627776) (hown : w.ownsRow base 5 1 v xs.length xs) (hb : base ≤ w.heap.size) (hx : xs.length ≤ 1099511627776) :
    Calls Try.prog 77 #[v, .string s] w (GrewPost w base v xs (textE s)) := by
  obtain ⟨i0, hi0, hz0, hz1, hz2⟩ := info_parts info_u8
  have hl : s.data.toList.length = s.size := by rw [Array.length_toList]; rfl
  have Hl := Lib.hid hl
  have Hx := Lib.hid hx
  have Hs := Lib.hid hs
  have hle := natE_len s.size
  clear hl hx hs
  go_enter Try.func77, Try.ntmps77
  go_wp2_with (fail)
  refine (nat_any v s.size xs base w (by have := Hs.out; omega) hown hb Hx.out).mono ?_
  rintro e w1 ⟨A1, c1, rfl, hg⟩
  go_wp2_with (at_builtin; refine wpList_append_str _ rfl (.tmp 8) (.tmp 9) _ _ rfl base _ i0 Try.underlying62 Try.underlying9 hi0 hz0 hz1 hz2 _ _ _ rfl hg.1 s rfl (by have := Hs.out; have := Hx.out; unfold maxLen; omega) (by have := Hs.out; have := Hx.out; omega) (by have := hg.2.1.size; omega) ?_; intro v2 w2 hown2 hg2 hat2)
  go_ret
  have hfin : Grew w base v xs w2 v2 (natE s.size ++ s.data.toList) := hg.step0 Hl.out.symm rfl hown2 hg2 hat2
  obtain ⟨A2, c2, rfl⟩ := hfin.form
  exact ⟨A2, c2, rfl, hfin⟩
end Go.Proofs.Yteojmmjanjilaaa
