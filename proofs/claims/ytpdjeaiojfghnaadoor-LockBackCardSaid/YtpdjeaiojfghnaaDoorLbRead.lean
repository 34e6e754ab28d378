/- Contract of lock.Read at the text of picks that may be, and at that text with a letter behind it. -/
import Derived.Test.YtpdjeaiojfghnaaDoorLbText
import Derived.Test.YtpdjeaiojfghnaaDoorLkLines
set_option linter.unusedVariables false
namespace Go.Proofs.YtpdjeaiojfghnaaDoor
open Go.RowKit Go.Shelf Go.Mem Go.Sv Go.Maps Go.Txt
attribute [local go_sem] Oper.semAt_some
set_option maxRecDepth 100000 in
theorem lines_any (S : ByteArray) (w : World) : Calls Tryd.prog 19 #[.string S] w fun e w' => e = .returned (.func (.func 37) #[] #[.pointer (some ⟨w.heap.size, 0, none⟩)]) ∧ w' = w.alloc (.cells #[.string S] 9) := by
  go_enter Tryd.func19, Tryd.ntmps19
  go_wp2_with (fail)
  go_ret
  exact ⟨rfl, rfl⟩
/-- what lock.Read's loop keeps: nothing in the results' cells, the picks so far in the variable's -/
def RdI (w : World) (B0 R2 R3 R4 : Nat) (l : List Pk) (xs : List (List UInt8)) (pre : List (List UInt8)) (W : World) : Prop :=
  pre.length ≤ l.length ∧ B0 ≤ W.heap.size ∧
    (∃ A c, Boxed W R4 23 (.slice A pre.length c) ∧ W.ownsRow B0 32 2 (.slice A pre.length c) pre.length (pks (l.take pre.length))) ∧
    Boxed W R2 23 (.slice none 0 0) ∧ Boxed W R3 24 (.int .i64 0) ∧ Below w.heap.size w W
def RdX (w : World) (R2 R3 : Nat) (bad : Bool) (c : Code) (pre : List (List UInt8)) (W : World) : Prop :=
  c = .ret ∧ bad = true ∧ Boxed W R2 23 (.slice none 0 0) ∧ Boxed W R3 24 (.int .i64 3) ∧ Below w.heap.size w W
theorem RdI.keep {w W W' : World} {B0 R2 R3 R4 : Nat} {l : List Pk} {xs pre : List (List UInt8)} {row : Option Nat} (h : RdI w B0 R2 R3 R4 l xs pre W) (hg : W.grownBy W' row)
    (hr : ∀ r, row = some r → w.heap.size ≤ r ∧ ((r ≠ R2 ∧ r ≠ R3 ∧ r ≠ R4 ∧ r < B0) ∨ ∃ o : Obj, W.heap[r]? = some o ∧ o.isCells = false)) : RdI w B0 R2 R3 R4 l xs pre W' := by
  obtain ⟨h1, h2, ⟨A, c, h3, h4⟩, h5, h6, h7⟩ := h
  have bx : ∀ {B : Nat} {t : TypeId} {v : Value}, Boxed W B t v → (B = R2 ∨ B = R3 ∨ B = R4) → Boxed W' B t v := fun {B t v} hb hB => hb.kept hg fun e => by
    rcases (hr B e.symm).2 with ⟨q1, q2, q3, _⟩ | ⟨o, ho, hc⟩
    · omega
    · rw [show W.heap[B]? = _ from hb] at ho
      cases ho
      cases hc
  refine ⟨h1, Nat.le_trans h2 hg.size, ⟨A, c, bx h3 (by omega), h4.kept hg ?_⟩, bx h5 (by omega), bx h6 (by omega), h7.grown hg h7.size fun k e => (hr k e).1⟩
  rcases h4.2 with ⟨hv, _⟩ | ⟨g, cap, cur, hv, hb, hgb, _⟩
  · exact .inl (by rw [hv]; rfl)
  · refine .inr fun e => ?_
    rw [hv] at e
    rcases (hr g (by rw [← e]; rfl)).2 with ⟨_, _, _, q4⟩ | ⟨o, ho, hc⟩
    · omega
    · rw [hgb] at ho
      cases ho
      cases hc
theorem RdX.keep {w W W' : World} {R2 R3 : Nat} {bad : Bool} {c : Code} {pre : List (List UInt8)} {row : Option Nat} (h : RdX w R2 R3 bad c pre W) (hg : W.grownBy W' row)
    (hr : ∀ r, row = some r → w.heap.size ≤ r ∧ ((r ≠ R2 ∧ r ≠ R3) ∨ ∃ o : Obj, W.heap[r]? = some o ∧ o.isCells = false)) : RdX w R2 R3 bad c pre W' := by
  obtain ⟨h1, h2, h5, h6, h7⟩ := h
  have bx : ∀ {B : Nat} {t : TypeId} {v : Value}, Boxed W B t v → (B = R2 ∨ B = R3) → Boxed W' B t v := fun {B t v} hb hB => hb.kept hg fun e => by
    rcases (hr B e.symm).2 with ⟨q1, q2⟩ | ⟨o, ho, hc⟩
    · omega
    · rw [show W.heap[B]? = _ from hb] at ho
      cases ho
      cases hc
  exact ⟨h1, h2, bx h5 (by omega), bx h6 (by omega), h7.grown hg h7.size fun k e => (hr k e).1⟩
theorem RdI.below {w W W' : World} {B0 R2 R3 R4 : Nat} {l : List Pk} {xs pre : List (List UInt8)} (h : RdI w B0 R2 R3 R4 l xs pre W) (hb : Below W.heap.size W W') : RdI w B0 R2 R3 R4 l xs pre W' :=
  h.keep (row := none) ⟨hb.os, hb.tape, hb.output, hb.size, fun k hk _ => hb.block k hk⟩ (by rintro _ ⟨⟩)
theorem keeps_below {B : Nat} {W W' : World} (hb : Below W.heap.size W W') : KeepsFrom B W W' :=
  KeepsFrom.of_grownBy (row := none) ⟨hb.os, hb.tape, hb.output, hb.size, fun k hk _ => hb.block k hk⟩ (by rintro _ ⟨⟩)
theorem cell_row_new (W : World) (t : TypeId) (vs : List Value) (j : Nat) (u : Value) (hu : vs[j]? = some u) : (W.alloc (.cells vs.toArray t)).cell? ((⟨W.heap.size, 0, none⟩ : Addr).add j) = some u := by
  have e : (⟨W.heap.size, 0, none⟩ : Addr).add j = ⟨W.heap.size, j, none⟩ := by cases j <;> simp [Addr.add]
  rw [e, (Blk.new W t vs).cell j]
  exact hu
theorem own_weak {W : World} {b b' : Nat} {e : TypeId} {size n : Nat} {v : Value} {xs : List Value} (h : W.ownsRow b e size v n xs) (hb : b' ≤ b) : W.ownsRow b' e size v n xs :=
  ⟨h.1, h.2.imp id fun ⟨g, cap, cur, e1, e2, r⟩ => ⟨g, cap, cur, e1, Nat.le_trans hb e2, r⟩⟩
/-- an append to the picks in the box R4: all that a round keeps -/
theorem RdI.snoc {w W w1 : World} {B0 R2 R3 R4 Bs : Nat} {l : List Pk} {xs pre more : List (List UInt8)} {x : List UInt8} {tmp : Obj} {A A' : Option Addr} {c c' : Nat} (hI : RdI w B0 R2 R3 R4 l xs pre W) (hx : xs = pre ++ x :: more) (hlt : pre.length < l.length)
    (hv : Boxed W R4 23 (.slice A pre.length c)) (hrow : W.ownsRow B0 32 2 (.slice A pre.length c) pre.length (pks (l.take pre.length)))
    (hown : w1.ownsRow B0 32 2 (.slice A' (pre.length + 1) c') (pre.length + 1) (pks (l.take pre.length) ++ pkc l[pre.length])) (hgrow : (W.alloc tmp).grownBy w1 (Value.slice A pre.length c).ownBlock)
    (h2 : w.heap.size ≤ B0) (hR : w.heap.size ≤ R4 ∧ R4 ≠ R2 ∧ R4 ≠ R3 ∧ R4 < B0 ∧ R2 < B0 ∧ R3 < B0) (hBs : Bs < B0 ∧ Bs ≠ R4) (hsz : B0 ≤ W.heap.size) :
    Boxed w1 R4 23 (.slice A pre.length c) ∧ KeepsFrom B0 W (w1.setCell ⟨R4, 0, none⟩ (.slice A' (pre.length + 1) c')) ∧ (w1.setCell ⟨R4, 0, none⟩ (.slice A' (pre.length + 1) c')).heap[Bs]? = W.heap[Bs]? ∧
      RdI w B0 R2 R3 R4 l xs (pre ++ [x]) (w1.setCell ⟨R4, 0, none⟩ (.slice A' (pre.length + 1) c')) := by
  obtain ⟨_, _, _, c2, c3, hB⟩ := hI
  have ap := Boxed.appended hv (by decide) (own_weak hrow h2) hB.size hR.1 (own_weak hown h2) hgrow
  obtain ⟨a1, a2, _, a4, a5⟩ := ap
  have hob : ∀ b, (Value.slice A pre.length c).ownBlock = some b → B0 ≤ b := fun b e => (hrow.lt b e).1
  have hob' : ∀ b, (Value.slice A' (pre.length + 1) c').ownBlock = some b → B0 ≤ b := fun b e => (hown.lt b e).1
  have old : ∀ b, b < B0 → w1.heap[b]? = W.heap[b]? := fun b hb => (hgrow.block b (by simp; omega) (fun e => by have := hob b e.symm; omega)).trans (Below.heap_alloc W tmp b (by omega))
  refine ⟨a1, a4.from B0, (Below.heap_setCell _ _ _ Bs hBs.2).trans (old Bs hBs.1), by simp; omega, by have := hgrow.size; simp at this ⊢; omega, ⟨A', c', ?_, ?_⟩, ?_, ?_, hB.trans a5⟩
  · rw [List.length_append, List.length_singleton]
    exact a2
  · have e : (pre ++ [x]).length = pre.length + 1 := by simp
    rw [e, List.take_succ_eq_append_getElem hlt, pks_append, pks_one]
    exact hown.kept (grownBy_setCell' _ _ _) (.inr fun e => by have := hob' _ e; omega)
  · exact Boxed.other (W := w1) ((old R2 (by omega)).trans c2) (by omega) _
  · exact Boxed.other (W := w1) ((old R3 (by omega)).trans c3) (by omega) _
def ReadPost (w : World) (bad : Bool) (l : List Pk) (e : Ending) (w' : World) : Prop :=
  (bad = false → ∃ A c, e = .returned (.tuple #[.slice A l.length c, .int .i64 0]) ∧ l.length ≤ c ∧ c ≤ maxLen ∧ Reads w' (fun b => w.heap.size ≤ b) 2 A l.length (pks l)) ∧
    (bad = true → e = .returned (.tuple #[.slice none 0 0, .int .i64 3])) ∧ Below w.heap.size w w'
def xsOf (bad : Bool) (l : List Pk) : List (List UInt8) := l.map lineL ++ (if bad then [[120]] else [])
def sOf (bad : Bool) (l : List Pk) : List UInt8 := textF l ++ (if bad then [120] else [])
theorem sOf_lines (bad : Bool) (l : List Pk) (h : ∀ p ∈ l, Letter p.1) : LinesR (sOf bad l) (xsOf bad l) := by
  cases bad with
  | false => simpa [sOf, xsOf] using text_lines l h
  | true => exact text_lines_x l h
set_option maxRecDepth 100000 in
set_option maxHeartbeats 2000000 in
theorem read_any (bad : Bool) (l : List Pk) (h : PkOk l) (T : ByteArray) (hT : T = ⟨(sOf bad l).toArray⟩) (w : World) (hv : Env w) :
    Calls Tryd.prog 8 #[.string T] w (ReadPost w bad l) := by
  have hx := sOf_lines bad l h.nm
  have hT9 : T.size ≤ 211 := by
    have h1 := text_len l fun p hp => ⟨h.nm p hp, (h.vr p hp).2⟩
    have h2 := h.ln
    rw [hT, ba_size, sOf, List.length_append]
    have : (if bad then [120] else [] : List UInt8).length ≤ 1 := by cases bad <;> simp
    omega
  have hs9 : (sOf bad l).length ≤ 211 := by rw [hT, ba_size] at hT9; exact hT9
  have LN := Lib.hid (fun (n : Nat) (V : World) => (callsIn_wide (n := n)).2 (lines_any T V))
  have HT := Lib.hid hT
  have HV := Lib.hid hv
  clear hT hv
  refine (callsIn_wide (n := 3)).1 ?_
  refine callsIn_of_wp_marks Tryd.func8 rfl trivial ?_ rfl
  simp only [Tryd.ntmps8, List.size_toArray, List.length_cons, List.length_nil, Nat.reduceAdd, Nat.reduceSub, Array.replicate_succ, Array.replicate_zero, List.push_toArray, List.append_toArray, List.nil_append, List.cons_append]
  gi_wp2_with (refine ⟨trivial, ?_⟩; gi_at_call 19; refine (LN.out _ _).mono ?_; rintro e w' ⟨rfl, rfl⟩)
  obtain ⟨W0, hW0⟩ : ∃ W0, ((((w.alloc (.cells #[.slice none 0 0] 23)).alloc (.cells #[.int .i64 0] 24)).alloc (.cells #[.slice none 0 0] 23)).alloc (.cells #[.string T] 9)) = W0 := ⟨_, rfl⟩
  have hs0 : W0.heap.size = w.heap.size + 4 := by rw [← hW0]; simp
  have b2 : Boxed W0 w.heap.size 23 (.slice none 0 0) := by rw [← hW0]; exact (((Boxed.new w _ _).alloc _).alloc _).alloc _
  have b3 : Boxed W0 (w.heap.size + 1) 24 (.int .i64 0) := by
    rw [← hW0]
    have := ((Boxed.new (w.alloc (.cells #[.slice none 0 0] 23)) 24 (.int .i64 0)).alloc (.cells #[.slice none 0 0] 23)).alloc (.cells #[.string T] 9)
    rwa [World.size_alloc] at this
  have b4 : Boxed W0 (w.heap.size + 1 + 1) 23 (.slice none 0 0) := by
    rw [← hW0]
    have := (Boxed.new ((w.alloc (.cells #[.slice none 0 0] 23)).alloc (.cells #[.int .i64 0] 24)) 23 (.slice none 0 0)).alloc (.cells #[.string T] 9)
    rwa [World.size_alloc, World.size_alloc] at this
  have bS : Boxed W0 (w.heap.size + 1 + 1 + 1) 9 (bsv (sOf bad l)) := by
    have := Boxed.new (((w.alloc (.cells #[.slice none 0 0] 23)).alloc (.cells #[.int .i64 0] 24)).alloc (.cells #[.slice none 0 0] 23)) 9 (.string T)
    rw [World.size_alloc, World.size_alloc, World.size_alloc, hW0] at this
    rw [HT.out] at this
    exact this
  have hb0 : Below w.heap.size w W0 := by rw [← hW0]; exact ((((Below.refl _ _).alloc (Nat.le_refl _) _).alloc (by simp) _).alloc (by simp; omega) _).alloc (by simp; omega) _
  have hI : OwnC (w.heap.size + 1 + 1 + 1) W0.heap.size (RdI w W0.heap.size w.heap.size (w.heap.size + 1) (w.heap.size + 1 + 1) l (xsOf bad l)) := fun s A C row hs hg hr => hs.keep hg fun r e => by
    rcases hr r e with rfl | ⟨h1, o, ho, hc⟩
    · exact ⟨by omega, .inl ⟨by omega, by omega, by omega, by omega⟩⟩
    · exact ⟨by omega, .inr ⟨o, ho, hc⟩⟩
  have hIx : ∀ c, OwnC (w.heap.size + 1 + 1 + 1) W0.heap.size (RdX w w.heap.size (w.heap.size + 1) bad c) := fun c s A C row hs hg hr => hs.keep hg fun r e => by
    rcases hr r e with rfl | ⟨h1, o, ho, hc⟩
    · exact ⟨by omega, .inl ⟨by omega, by omega⟩⟩
    · exact ⟨by omega, .inr ⟨o, ho, hc⟩⟩
  have h0 : RdI w W0.heap.size w.heap.size (w.heap.size + 1) (w.heap.size + 1 + 1) l (xsOf bad l) [] W0 :=
    ⟨Nat.zero_le _, Nat.le_refl _, ⟨none, 0, b4, World.ownsRow_nil _ _ _ _⟩, b2, b3, hb0⟩
  rw [hW0]
  clear hW0 b2 b3 b4
  refine wpIn_rangeFunc_cell rfl (by omega) (gf := 37) (lb := #[.pointer (some ⟨w.heap.size + 1 + 1 + 1, 0, none⟩)]) rfl trivial (enters_of Tryd.func37 (by kernel_rfl) rfl)
    (lines1_any 2 (by omega) (w.heap.size + 1 + 1 + 1) (sOf bad l) (xsOf bad l) hx (by omega) W0 bS) (Below.refl _ _) (by omega) (fun _ => rfl)
    (RdI w W0.heap.size w.heap.size (w.heap.size + 1) (w.heap.size + 1 + 1) l (xsOf bad l)) (RdX w w.heap.size (w.heap.size + 1) bad) hI hIx h0
    (fun x => { tmps := #[.string T, undef, .pointer (some ⟨w.heap.size, 0, none⟩), .pointer (some ⟨w.heap.size + 1, 0, none⟩), .pointer (some ⟨w.heap.size + 1 + 1, 0, none⟩), bsv x, undef, undef, undef, undef, undef, undef, undef, .string T, .func (.func 37) #[] #[.pointer (some ⟨w.heap.size + 1 + 1 + 1, 0, none⟩)], bsv x, undef, undef, undef, undef, undef, undef, undef, undef, undef, undef, undef, undef, undef, undef, undef, undef, undef, undef, undef, undef, undef, undef, undef, undef, undef, undef, undef, undef, undef, undef, undef, undef, undef, undef, undef, undef, undef, undef], defers := [] }) ?assign ?body ?done ?stop
  case assign =>
    intro k x W K hK
    gi_wp2
    exact hK
  case body =>
    rintro k pre x W hIW ⟨more, hmore⟩
    have hB0 := hIW.2.2.2.2.2
    by_cases hlt : pre.length < l.length
    · have hxl : x = lineL l[pre.length] := by
        have e1 : (xsOf bad l)[pre.length]? = some x := by rw [hmore]; simp
        unfold xsOf at e1
        rw [List.getElem?_append_left (by simpa using hlt), List.getElem?_map, List.getElem?_eq_getElem hlt] at e1
        injection e1 with e1
        exact e1.symm
      obtain ⟨y, hy⟩ : ∃ y, y = l[pre.length] := ⟨_, rfl⟩
      have hnm := h.nm y (by rw [hy]; exact List.getElem_mem hlt)
      have hvr := h.vr y (by rw [hy]; exact List.getElem_mem hlt)
      rw [← hy] at hxl
      have HY := Lib.hid hy
      clear hy
      obtain ⟨yn, yv⟩ := y
      simp only at hnm hvr
      have hll := line_len (p := (yn, yv)) hnm hvr.2
      have hbl : (bodyL (yn, yv)).length ≤ 1000 := by
        unfold lineL at hll
        rw [List.length_append] at hll
        omega
      have TR := Lib.hid (fun (n : Nat) (V : World) => CallsIn.inRound k ((callsIn_wide (n := n)).2 (trim_gen (lineL (yn, yv)) (bodyL (yn, yv)) (trim_line _) (by omega) V)))
      have CU := Lib.hid (fun (n : Nat) (V : World) (hV : Env V) => CallsIn.inRound k ((callsIn_wide (n := n)).2 (cut_gen (bodyL (yn, yv)) yn (Lib.decDigits yv) true (cut_body hnm) hbl V hV)))
      have AT := Lib.hid (fun (n : Nat) (V : World) => CallsIn.inRound k ((callsIn_wide (n := n)).2 (atoi_any yv (by omega) V)))
      have hbx : bsv x = .string ⟨(lineL (yn, yv)).toArray⟩ := by rw [hxl]; rfl
      rw [hbx]
      obtain ⟨SX, hSX⟩ : ∃ S : ByteArray, S = ⟨(lineL (yn, yv)).toArray⟩ := ⟨_, rfl⟩
      obtain ⟨SB, hSB⟩ : ∃ S : ByteArray, S = ⟨(bodyL (yn, yv)).toArray⟩ := ⟨_, rfl⟩
      obtain ⟨SN, hSN⟩ : ∃ S : ByteArray, S = ⟨yn.toArray⟩ := ⟨_, rfl⟩
      obtain ⟨SD, hSD⟩ : ∃ S : ByteArray, S = ⟨(Lib.decDigits yv).toArray⟩ := ⟨_, rfl⟩
      have hpk : pkc (yn, yv) = [.string SN, .int .i64 (yv : Nat)] := by rw [hSN]; rfl
      rw [← hSX, ← hSB] at TR
      rw [← hSB, ← hSN, ← hSD] at CU
      rw [← hSD] at AT
      rw [← hSX]
      have HP := Lib.hid hpk
      have HX := Lib.hid hmore
      have HI := Lib.hid hIW
      have hlen30 := h.ln
      have n30 : (((pre.length : Nat) : Int) == 30) = false := by simp; omega
      clear hpk hSX hSB hSN hSD hbx hxl hll hbl hmore hIW hB0 hI hIx h0 bS hb0 hx hnm
      gi_wp2_with (fail)
      refine ⟨trivial, (TR.out _ _).mono ?_⟩
      rintro e w' ⟨rfl, rfl⟩
      gi_wp2_with (fail)
      refine ⟨trivial, (CU.out _ _ (HV.out.below HI.out.2.2.2.2.2)).mono ?_⟩
      rintro e W1 ⟨rfl, hb1⟩
      have I1 := Lib.hid (HI.out.below hb1)
      have HB1 := Lib.hid hb1
      clear hb1
      gi_wp2_with (fail)
      refine ⟨trivial, (AT.out _ _).mono ?_⟩
      rintro e W2 ⟨rfl, hb2⟩
      have I2 := Lib.hid (I1.out.below hb2)
      have HB2 := Lib.hid (HB1.out.trans (hb2.mono HB1.out.size))
      clear hb2 I1 HB1 TR CU AT
      obtain ⟨_, _, ⟨A, c, hv, hrow⟩, _⟩ := I2.out
      have hc := hv.cell
      have q4 := hv.lt
      have hW2 : W0.heap.size ≤ W2.heap.size := I2.out.2.1
      have HR := Lib.hid (And.intro hv hrow)
      clear hv hrow
      obtain ⟨i0, hi, hz0, hz1, hz2⟩ := info_parts info_pk
      gi_wp2_with (gi_at_builtin; refine wpListIn_append_own _ rfl (.tmp 35) (.tmp 39) 23 rfl W0.heap.size 32 i0 (.agg #[.string ⟨#[]⟩, .int .i64 0]) 2 24 Tryd.underlying23 hi hz0 hz1 hz2 rfl (by omega) _ _ _ rfl (HR.out.2.alloc _) ⟨W2.heap.size, 0, none⟩ 1 1 [.string SN, .int .i64 (yv : Nat)] rfl rfl (cell_row_new W2 32 [.string SN, .int .i64 (yv : Nat)]) (by simp [Value.oneCell']) (by unfold maxLen; omega) (by omega) (by simp; omega) ?_; intro v' w1 hown' hgrow _; obtain ⟨A', c', rfl, _⟩ := own_form hown'; have fin := RdI.snoc (Bs := w.heap.size + 1 + 1 + 1) I2.out HX.out hlt HR.out.1 HR.out.2 (by rw [← HY.out, HP.out]; exact hown') hgrow (by omega) ⟨by omega, by omega, by omega, by omega, by omega, by omega⟩ ⟨by omega, by omega⟩ hW2; have hc1 := fin.1.cell; have hf1 := fin.1.frozen; have q5 := fin.1.lt; have FIN := Lib.hid fin; clear fin hown' hgrow)
      obtain ⟨_, f2, f3, f4⟩ := FIN.out
      exact ⟨(keeps_below HB2.out).trans f2, f3.trans (HB2.out.block _ (by have := HI.out.2.1; omega)), f4⟩
    · have hpl : pre.length = l.length := by have := hIW.1; omega
      have hbt : bad = true ∧ x = [120] := by
        have e1 : (xsOf bad l)[pre.length]? = some x := by rw [hmore]; simp
        unfold xsOf at e1
        rw [List.getElem?_append_right (by simp; omega), List.length_map, hpl, Nat.sub_self] at e1
        cases bad with
        | false => simp at e1
        | true => exact ⟨rfl, by simpa using e1.symm⟩
      obtain ⟨hbad, rfl⟩ := hbt
      have TR := Lib.hid (fun (n : Nat) (V : World) => CallsIn.inRound k ((callsIn_wide (n := n)).2 (trim_gen [120] [120] trim_x (by decide) V)))
      have CU := Lib.hid (fun (n : Nat) (V : World) (hV : Env V) => CallsIn.inRound k ((callsIn_wide (n := n)).2 (cut_gen [120] [120] [] false cut_x (by decide) V hV)))
      have AT := Lib.hid (fun (n : Nat) (V : World) (hV : Env V) => CallsIn.inRound k ((callsIn_wide (n := n)).2 (atoi_empty V hV)))
      have HI := Lib.hid hIW
      have HBD := Lib.hid hbad
      have hbx : bsv [120] = .string ⟨#[120]⟩ := rfl
      rw [hbx]
      clear hmore hIW hB0 hI hIx h0 bS hb0 hx hbad hpl hbx hlt
      gi_wp2_with (fail)
      refine ⟨trivial, (TR.out _ _).mono ?_⟩
      rintro e w' ⟨rfl, rfl⟩
      gi_wp2_with (fail)
      refine ⟨trivial, (CU.out _ _ (HV.out.below HI.out.2.2.2.2.2)).mono ?_⟩
      rintro e W1 ⟨rfl, hb1⟩
      have I1 := Lib.hid (HI.out.below hb1)
      have HB1 := Lib.hid hb1
      clear hb1
      gi_wp2_with (fail)
      refine ⟨trivial, (AT.out _ _ (HV.out.below I1.out.2.2.2.2.2)).mono ?_⟩
      rintro e W2 ⟨te, pv, rfl, hb2⟩
      have I2 := Lib.hid (I1.out.below hb2)
      have HB2 := Lib.hid (HB1.out.trans (hb2.mono HB1.out.size))
      clear hb2 I1 HB1 TR CU AT
      have m2 := I2.out.2.2.2.1.cell
      have z2 := I2.out.2.2.2.1.frozen
      have q2 := I2.out.2.2.2.1.lt
      have m3 := I2.out.2.2.2.2.1.cell
      have z3 := I2.out.2.2.2.2.1.frozen
      have q3 := I2.out.2.2.2.2.1.lt
      gi_wp2
      obtain ⟨_, _, _, c2, c3, hB⟩ := I2.out
      refine ⟨(keeps_below HB2.out).trans (((KeepsOthers.setCell _ _ _).trans (KeepsOthers.setCell _ _ _)).from _), rfl, HBD.out, (c2.set _).other (by omega) _, (c3.other (by omega) _).set _, ?_⟩
      exact (hB.setCell (p := ⟨w.heap.size, 0, none⟩) (Nat.le_refl _) _).setCell (p := ⟨w.heap.size + 1, 0, none⟩) (by simp) _
  case done =>
    rintro D ys W hD rfl hIW hK
    have hbad : bad = false := by
      cases bad with
      | false => rfl
      | true =>
        exfalso
        have h9 := hIW.1
        have e9 : (xsOf true l).length = l.length + 1 := by simp [xsOf]
        omega
    subst hbad
    have hxl : (xsOf false l).length = l.length := by simp [xsOf]
    obtain ⟨_, _, ⟨A, c, hv4, hrow⟩, c2, c3, hB⟩ := hIW
    rw [hxl] at hv4 hrow
    rw [List.take_of_length_le (Nat.le_refl _)] at hrow
    obtain ⟨hlc, hcm, hrd⟩ := own_reads (by omega) hrow
    have TX := Lib.hid (fun (n : Nat) => (callsIn_wide (n := n)).2 (text_any A l.length c l W (HV.out.below hB) (hrd.imp (D' := Any) (by omega) fun _ _ _ => trivial) rfl h))
    have hTT : T = ⟨(textF l).toArray⟩ := by rw [HT.out]; simp [sOf]
    rw [← hTT] at TX
    have m4 := hv4.cell
    have q4 := hv4.lt
    gi_wp2_with (fail)
    refine ⟨trivial, (TX.out _).mono ?_⟩
    rintro e W1 ⟨rfl, hb1⟩
    have kp : ∀ {B : Nat} {t : TypeId} {v : Value}, Boxed W B t v → Boxed W1 B t v := fun {B t v} hb => (hb1.block B hb.lt).trans hb
    have hv4' := kp hv4
    have c2' := kp c2
    have c3' := kp c3
    have hK1 : W1.heap[D]? = some (.deferred (some [])) := (hb1.block D (Array.getElem?_eq_some_iff.1 hK).1).trans hK
    have hB1 : Below w.heap.size w W1 := hB.trans (hb1.mono hB.size)
    have hrow1 := hrow.kept (row := none) (w' := W1) ⟨hb1.os, hb1.tape, hb1.output, hb1.size, fun k hk _ => hb1.block k hk⟩ (Classical.em _)
    have m4' := hv4'.cell
    have m2' := c2'.cell
    have m3' := c3'.cell
    have z2 := c2'.frozen
    have z3 := c3'.frozen
    have q2 := c2'.lt
    have q3 := c3'.lt
    have q4' := hv4'.lt
    have FIN := Lib.hid (And.intro hK1 (And.intro hB1 (And.intro hrow1 (And.intro c2' c3'))))
    clear hK1 hB1 hrow1 c2' c3' hv4' kp hb1 m4 q4 hv4 c2 c3 hB hrow hrd TX hTT hK hI hIx h0 hx bS hb0
    gi_wp2
    obtain ⟨hK1, hB1, hrow1, c2', c3'⟩ := FIN.out
    obtain ⟨W3, hW3⟩ : ∃ W3, W3 = (W1.setCell ⟨w.heap.size, 0, none⟩ (.slice A l.length c)).setCell ⟨w.heap.size + 1, 0, none⟩ (.int .i64 0) := ⟨_, rfl⟩
    have hK3 : W3.heap[D]? = some (.deferred (some [])) := by
      rw [hW3]
      exact ((Below.heap_setCell _ _ _ D (by simp; omega)).trans (Below.heap_setCell _ _ _ D (by simp; omega))).trans hK1
    have k2 : Boxed W3 w.heap.size 23 (.slice A l.length c) := by rw [hW3]; exact (c2'.set _).other (by omega) _
    have k3 : Boxed W3 (w.heap.size + 1) 24 (.int .i64 0) := by rw [hW3]; exact (c3'.other (by omega) _).set _
    have hB3 : Below w.heap.size w W3 := by rw [hW3]; exact (hB1.setCell (p := ⟨w.heap.size, 0, none⟩) (Nat.le_refl _) _).setCell (p := ⟨w.heap.size + 1, 0, none⟩) (by simp) _
    have hob : ∀ b, (Value.slice A l.length c).ownBlock = some b → W0.heap.size ≤ b := fun b e => (hrow1.lt b e).1
    have hrow3 : W3.ownsRow W0.heap.size 32 2 (.slice A l.length c) l.length (pks l) := by
      rw [hW3]
      exact (hrow1.kept (grownBy_setCell' _ _ _) (.inr fun e => by have := hob _ e; omega)).kept (grownBy_setCell' _ _ _) (.inr fun e => by have := hob _ e; omega)
    rw [← hW3]
    refine ⟨by simp, .inl ⟨_, _, rfl, run_takeDeferred hK3, ?_⟩⟩
    have r2 := cell_kept k2.cell (grownBy_putObj' _ D (.deferred none)) (fun r e => by cases e; exact ⟨_, hK3, rfl⟩)
    have r3 := cell_kept k3.cell (grownBy_putObj' _ D (.deferred none)) (fun r e => by cases e; exact ⟨_, hK3, rfl⟩)
    refine ⟨.tuple #[.slice A l.length c, .int .i64 0], ?_, ?_⟩
    · simp [results, Tryd.f8, go_sem, r2, r3]
    · have hfin := own_reads (by omega) (ownsRow_putObj hrow3 (.deferred none) hK3 rfl)
      exact ⟨fun _ => ⟨A, c, rfl, hlc, hcm, hfin.2.2.imp (by omega) fun b hb _ => by omega⟩, fun e => (by cases e), hB3.trans (belowK_b (w := w) (Nat.le_refl _) W3 D _ _ (by omega) hK3 rfl rfl)⟩
  case stop =>
    rintro D c pre W hD _ ⟨rfl, hbad, c2, c3, hB⟩ hK
    gi_wp2
    refine ⟨by simp, .inl ⟨_, _, rfl, run_takeDeferred hK, ?_⟩⟩
    have k2 := cell_kept c2.cell (grownBy_putObj' _ D (.deferred none)) (fun r e => by cases e; exact ⟨_, hK, rfl⟩)
    have k3 := cell_kept c3.cell (grownBy_putObj' _ D (.deferred none)) (fun r e => by cases e; exact ⟨_, hK, rfl⟩)
    refine ⟨.tuple #[.slice none 0 0, .int .i64 3], ?_, ?_⟩
    · simp [results, Tryd.f8, go_sem, k2, k3]
    · exact ⟨fun e => (by rw [hbad] at e; cases e), fun _ => rfl, hB.trans (belowK_b (w := w) (Nat.le_refl _) W D _ _ (by omega) hK rfl rfl)⟩
end Go.Proofs.YtpdjeaiojfghnaaDoor
