/- Plain laws of the encoding of letters, inputs, saved actors and parcels: what is decoded out of an encoding is what was encoded. -/
import Derived.Test.YtgcpclbkjplipaaRd
set_option linter.unusedVariables false
namespace Go.Val
/-- one decoder behind another -/
def seqD {α β : Type} (dec : List UInt8 → Option (α × List UInt8)) (k : α → List UInt8 → Option (β × List UInt8)) (bs : List UInt8) : Option (β × List UInt8) := (dec bs).bind fun p => k p.1 p.2
def retD {α : Type} (x : α) (bs : List UInt8) : Option (α × List UInt8) := some (x, bs)
/-- the state behind a first reading is where the rest goes on -/
theorem seq_on {α β : Type} {dec : List UInt8 → Option (α × List UInt8)} (k : α → List UInt8 → Option (β × List UInt8)) {bad bad1 : Bool} {bs bs1 : List UInt8} {x : α} (h : (okS bad bs).bind dec = okS bad1 (x, bs1)) : (okS bad bs).bind (seqD dec k) = (okS bad1 bs1).bind (k x) := by
  cases bad with
  | true =>
    cases bad1 with
    | true => rfl
    | false => simp [okS] at h
  | false =>
    simp only [okS, Bool.false_eq_true, if_false, Option.bind_some, seqD] at h ⊢
    rw [h]
    cases bad1 with
    | true => rfl
    | false => rfl
theorem ret_on {α : Type} (x : α) (bad : Bool) (bs : List UInt8) : (okS bad bs).bind (retD x) = okS bad (x, bs) := by cases bad <;> rfl
theorem seqD_back {α β : Type} {dec : List UInt8 → Option (α × List UInt8)} {k : α → List UInt8 → Option (β × List UInt8)} {e r : List UInt8} {x : α} (h : dec (e ++ r) = some (x, r)) : seqD dec k (e ++ r) = k x r := by
  unfold seqD
  rw [h]
  rfl
def byteE (k : Int) : List UInt8 := [UInt8.ofNat k.toNat]
theorem byteD_back (k : Int) (r : List UInt8) (h : 0 ≤ k ∧ k ≤ 255) : byteD (byteE k ++ r) = some (k, r) := by
  simp only [byteE, List.singleton_append, byteD, Option.some.injEq, Prod.mk.injEq, and_true]
  rw [ofNat_toNat (by omega)]
  omega
/-- a natural number as an int -/
def natI (n : Int) : List UInt8 := natE n.toNat
def lenI (bs : List UInt8) : Option (Int × List UInt8) := (lenD bs).map fun p => ((p.1 : Int), p.2)
theorem lenI_back (n : Int) (r : List UInt8) (h : 0 ≤ n ∧ n ≤ 9223372036854775807) : lenI (natI n ++ r) = some (n, r) := by
  unfold lenI natI
  rw [lenD_back n.toNat r (by omega)]
  simp
  omega
theorem lenI_on {bad bad1 : Bool} {bs bs1 : List UInt8} {x : Nat} (h : (okS bad bs).bind lenD = okS bad1 (x, bs1)) : (okS bad bs).bind lenI = okS bad1 ((x : Int), bs1) := by
  cases bad with
  | true =>
    cases bad1 with
    | true => rfl
    | false => simp [okS] at h
  | false =>
    simp only [okS, Bool.false_eq_true, if_false, Option.bind_some, lenI] at h ⊢
    rw [h]
    cases bad1 <;> rfl
def zeroV : V := .mk 0 0 ⟨#[]⟩ []

structure L where
  kind : Int
  from_ : Int
  to_ : Int
  num : Int
  text : ByteArray
  val : V
def okN (n : Int) : Prop := 0 ≤ n ∧ n ≤ 9223372036854775807
def okL (d : Nat) (l : L) : Prop := (0 ≤ l.kind ∧ l.kind ≤ 255) ∧ okN l.from_ ∧ okN l.to_ ∧ okN l.num ∧ l.text.size ≤ 9223372036854775807 ∧ (l.kind = 1 → okV d l.val) ∧ (l.kind ≠ 1 → l.val = zeroV)
def encL (d : Nat) (l : L) : List UInt8 := byteE l.kind ++ (natI l.from_ ++ (natI l.to_ ++ (natI l.num ++ (textE l.text ++ if l.kind = 1 then encV d l.val else []))))
def decL (d : Nat) : List UInt8 → Option (L × List UInt8) :=
  seqD byteD fun k => seqD lenI fun f => seqD lenI fun t => seqD lenI fun n => seqD textD fun s => if k = 1 then seqD (decV d) fun v => retD ⟨k, f, t, n, s, v⟩ else retD ⟨k, f, t, n, s, zeroV⟩
theorem decL_back (d : Nat) (l : L) (r : List UInt8) (h : okL d l) : decL d (encL d l ++ r) = some (l, r) := by
  obtain ⟨hk, hf, ht, hn, hs, h1, h2⟩ := h
  unfold decL encL
  rw [List.append_assoc, seqD_back (byteD_back l.kind _ hk), List.append_assoc, seqD_back (lenI_back l.from_ _ hf), List.append_assoc, seqD_back (lenI_back l.to_ _ ht), List.append_assoc, seqD_back (lenI_back l.num _ hn), List.append_assoc, seqD_back (textD_back l.text _ hs)]
  by_cases hk1 : l.kind = 1
  · rw [if_pos hk1, if_pos hk1, seqD_back (decV_back d l.val r (h1 hk1))]
    rfl
  · rw [if_neg hk1, if_neg hk1, List.nil_append]
    have := h2 hk1
    obtain ⟨a, b, c, e, f, g⟩ := l
    simp only at this
    subst this
    rfl
theorem encL_len1 (d : Nat) (l : L) : 1 ≤ (encL d l).length := by
  unfold encL byteE
  simp

structure In where
  kind : Int
  val : V
def okIn (d : Nat) (i : In) : Prop := (0 ≤ i.kind ∧ i.kind ≤ 255) ∧ (i.kind ≠ 3 → okV d i.val) ∧ (i.kind = 3 → i.val = zeroV)
def encI (d : Nat) (i : In) : List UInt8 := byteE i.kind ++ if i.kind = 3 then [] else encV d i.val
def decI (d : Nat) : List UInt8 → Option (In × List UInt8) := seqD byteD fun k => if k = 3 then retD ⟨k, zeroV⟩ else seqD (decV d) fun v => retD ⟨k, v⟩
theorem decI_back (d : Nat) (i : In) (r : List UInt8) (h : okIn d i) : decI d (encI d i ++ r) = some (i, r) := by
  obtain ⟨hk, h1, h2⟩ := h
  unfold decI encI
  rw [List.append_assoc, seqD_back (byteD_back i.kind _ hk)]
  by_cases hk3 : i.kind = 3
  · rw [if_pos hk3, if_pos hk3, List.nil_append]
    have := h2 hk3
    obtain ⟨a, b⟩ := i
    simp only at this
    subst this
    rfl
  · rw [if_neg hk3, if_neg hk3, seqD_back (decV_back d i.val r (h1 hk3))]
    rfl
theorem encI_len1 (d : Nat) (i : In) : 1 ≤ (encI d i).length := by
  unfold encI byteE
  simp

structure Sv where
  actor : ByteArray
  state : List V
  inputs : List In
def okSv (d : Nat) (s : Sv) : Prop := s.actor.size ≤ 9223372036854775807 ∧ (s.state.length ≤ 9223372036854775807 ∧ ∀ v ∈ s.state, okV d v) ∧ s.inputs.length ≤ 9223372036854775807 ∧ ∀ i ∈ s.inputs, okIn d i
def encS (d : Nat) (s : Sv) : List UInt8 := textE s.actor ++ (listE (encV d) s.state ++ listE (encI d) s.inputs)
def decS (d : Nat) : List UInt8 → Option (Sv × List UInt8) := seqD textD fun a => seqD (listD (decV d)) fun s => seqD (listD (decI d)) fun i => retD ⟨a, s, i⟩
theorem decS_back (d : Nat) (s : Sv) (r : List UInt8) (h : okSv d s) : decS d (encS d s ++ r) = some (s, r) := by
  obtain ⟨ha, ⟨hsl, hs⟩, hil, hi⟩ := h
  unfold decS encS
  rw [List.append_assoc, seqD_back (textD_back s.actor _ ha), List.append_assoc, seqD_back (listD_back s.state _ (fun x hx r => decV_back d x r (hs x hx)) (fun x hx => by have := encV_len1 d x (hs x hx); omega) hsl), seqD_back (listD_back s.inputs _ (fun x hx r => decI_back d x r (hi x hx)) (fun x hx => encI_len1 d x) hil)]
  rfl

structure Pc where
  ref : Int
  saved : Sv
  box : List L
  ticks : Int
  watches : List Int
  links : List Int
def okP (d : Nat) (p : Pc) : Prop := okN p.ref ∧ okSv d p.saved ∧ (p.box.length ≤ 9223372036854775807 ∧ ∀ l ∈ p.box, okL d l) ∧ (-9223372036854775808 ≤ p.ticks ∧ p.ticks ≤ 9223372036854775807) ∧ (p.watches.length ≤ 9223372036854775807 ∧ ∀ n ∈ p.watches, okN n) ∧ p.links.length ≤ 9223372036854775807 ∧ ∀ n ∈ p.links, okN n
def encP (d : Nat) (p : Pc) : List UInt8 := natI p.ref ++ (encS d p.saved ++ (listE (encL d) p.box ++ (intE p.ticks ++ (listE natI p.watches ++ listE natI p.links))))
def decP (d : Nat) : List UInt8 → Option (Pc × List UInt8) :=
  seqD lenI fun n => seqD (decS d) fun s => seqD (listD (decL d)) fun b => seqD intD fun t => seqD (listD lenI) fun w => seqD (listD lenI) fun l => retD ⟨n, s, b, t, w, l⟩
theorem natI_len1 (n : Int) : 1 ≤ (natI n).length := natE_len1 _
theorem decP_back (d : Nat) (p : Pc) (r : List UInt8) (h : okP d p) : decP d (encP d p ++ r) = some (p, r) := by
  obtain ⟨hn, hs, ⟨hbl, hb⟩, ht, ⟨hwl, hw⟩, hll, hl⟩ := h
  unfold decP encP
  rw [List.append_assoc, seqD_back (lenI_back p.ref _ hn), List.append_assoc, seqD_back (decS_back d p.saved _ hs), List.append_assoc, seqD_back (listD_back p.box _ (fun x hx r => decL_back d x r (hb x hx)) (fun x hx => encL_len1 d x) hbl), List.append_assoc, seqD_back (intD_back p.ticks _ ht), List.append_assoc,
    seqD_back (listD_back p.watches _ (fun x hx r => lenI_back x r (hw x hx)) (fun x hx => natI_len1 x) hwl), seqD_back (listD_back p.links _ (fun x hx r => lenI_back x r (hl x hx)) (fun x hx => natI_len1 x) hll)]
  rfl
end Go.Val
