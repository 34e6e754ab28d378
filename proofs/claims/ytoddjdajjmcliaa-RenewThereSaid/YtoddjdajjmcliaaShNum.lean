/- Numbers and letters of the laws. -/
import Derived.Test.YtoddjdajjmcliaaPgOf1
set_option linter.unusedVariables false
namespace Go.Proofs.Ytoddjdajjmcliaa
open Go.RowKit Go.Mem Go.Sh Go.Maps
def rsN (x m : Int) : Nat := (restI x m).toNat
theorem rsN_eq (x m : Int) (h : 0 < m) : restI x m = ((rsN x m : Nat) : Int) := by
  have := restI_bd x m h
  unfold rsN
  omega
theorem rsN_lt (x m : Int) (h : 0 < m) : (rsN x m : Int) < m := by
  have := restI_bd x m h
  unfold rsN
  omega
theorem I64.tdiv {x : Int} (h : I64 x) (m : Int) (hm : 2 ≤ m) : I64 (x.tdiv m) ∧ -4611686018427387904 ≤ x.tdiv m ∧ x.tdiv m ≤ 4611686018427387904 := by
  obtain ⟨h1, h2⟩ := h
  have key : ∀ y : Int, 0 ≤ y → y ≤ 9223372036854775808 → 0 ≤ y.tdiv m ∧ y.tdiv m ≤ 4611686018427387904 := by
    intro y h1 h2
    rw [Int.tdiv_eq_ediv_of_nonneg h1]
    have h3 := Int.ediv_nonneg h1 (show (0 : Int) ≤ m by omega)
    refine ⟨h3, ?_⟩
    have h4 := Int.mul_ediv_self_le (x := y) (k := m) (by omega)
    rcases Int.lt_or_le 4611686018427387904 (y / m) with h5 | h5
    · have : (2 : Int) * (y / m) ≤ m * (y / m) := Int.mul_le_mul_of_nonneg_right (by omega) h3
      omega
    · exact h5
  have h3 : -4611686018427387904 ≤ x.tdiv m ∧ x.tdiv m ≤ 4611686018427387904 := by
    rcases Int.lt_or_le x 0 with h | h
    · have h4 := key (-x) (by omega) (by omega)
      rw [Int.neg_tdiv] at h4
      omega
    · have h4 := key x h (by omega)
      omega
  unfold I64
  omega
/-- the letter of a number -/
def chr (q : Nat) : UInt8 := UInt8.ofNat (97 + q)
theorem chr_val (q : Nat) (h : q < 100) : (((chr q).toNat : Nat) : Int) = 97 + q := by
  unfold chr
  rw [UInt8.toNat_ofNat']
  omega
theorem chr_cv (w : World) (q : Nat) (e : TypeId) : (convert 84 9 (.slice (some ⟨w.heap.size, 0, none⟩) 1 1)).run Try.prog (w.alloc (.cells #[.int .u8 ((chr q).toNat : Nat)] e)) = .ok (str [chr q]) (w.alloc (.cells #[.int .u8 ((chr q).toNat : Nat)] e)) :=
  run_convert_reads _ _ _ _ Try.underlying84 Try.underlying5 Try.underlying9 (bs := [chr q]) (Reads.new w [.int .u8 ((chr q).toNat : Nat)] 1 1 e Any trivial rfl)
/-- a row of datas of the call's own -/
abbrev DtsOwn (w : World) (N0 : Nat) (v : Value) (l : List Dt) : Prop := OwnList 83 3 (DtCells 4) w N0 v l
theorem dts_alloc {w : World} {N0 : Nat} {v : Value} {l : List Dt} (h : DtsOwn w N0 v l) (o : Obj) : DtsOwn (w.alloc o) N0 v l := h.keep (DtCells.stable 4) fun b _ hl => Below.heap_alloc w o b hl
theorem dts_drew {w : World} {N0 : Nat} {v : Value} {l : List Dt} (h : DtsOwn w N0 v l) : DtsOwn (World.drew w) N0 v l := h.keep (DtCells.stable 4) fun b _ hl => rfl
/-- what lies in blocks that were there, and not in the row, stays behind an append -/
theorem dt_grown {w w' : World} {N0 : Nat} {v v' : Value} {cs : List Value} {t : Dt} (h : DtCells 4 w (fun b => N0 ≤ b ∧ v.ownBlock ≠ some b) cs t) (hg : w.grownBy w' v.ownBlock) (hat : v'.ownBlock = v.ownBlock ∨ v'.ownBlock = some w.heap.size) : DtCells 4 w' (fun b => N0 ≤ b ∧ v'.ownBlock ≠ some b) cs t := by
  have h1 : DtCells 4 w (fun b => N0 ≤ b ∧ v.ownBlock ≠ some b ∧ b < w.heap.size) cs t := (DtCells.stable 4).imp h fun b hb hl => ⟨hb.1, hb.2, hl⟩
  have h2 := (DtCells.stable 4).keep (w' := w') h1 (fun b hb hl => hg.block b hl (fun e => hb.2.1 e.symm))
  refine (DtCells.stable 4).imp h2 fun b hb _ => ⟨hb.1, fun e => ?_⟩
  rcases hat with h | h
  · rw [h] at e; exact hb.2.1 e
  · rw [h] at e
    injection e with e
    have := hb.2.2
    omega
theorem dts_push {w w' : World} {N0 : Nat} {v v' : Value} {vss : List (List Value)} {l : List Dt} {cs : List Value} {y : Dt} (ha : All2 (DtCells 4 w (fun b => N0 ≤ b ∧ v.ownBlock ≠ some b)) vss l) (hy : DtCells 4 w (fun b => N0 ≤ b ∧ v.ownBlock ≠ some b) cs y) (hg : w.grownBy w' v.ownBlock) (hat : v'.ownBlock = v.ownBlock ∨ v'.ownBlock = some w.heap.size)
    (hown : w'.ownsRow N0 83 3 v' (l.length + 1) (vss.flatten ++ cs)) : DtsOwn w' N0 v' (l ++ [y]) :=
  ⟨vss ++ [cs], by simpa using hown, (ha.imp fun x z h => dt_grown h hg hat).snoc (dt_grown hy hg hat)⟩
theorem dt_alloc {w : World} {D : Nat → Prop} {cs : List Value} {t : Dt} (h : DtCells 4 w D cs t) (o : Obj) : DtCells 4 (w.alloc o) D cs t := (DtCells.stable 4).keep h fun b _ hl => Below.heap_alloc w o b hl
/-- the cells of the program on its way -/
def pcell (A : Option Addr) (k c : Nat) : List Value := [str [109], .int .i64 1, .slice none 0 0, .slice A k c, .slice none 0 0, .slice none 0 0, .slice none 0 0, .slice none 0 0]
def zcell : List Value := [str [], .int .i64 0, .slice none 0 0, .slice none 0 0, .slice none 0 0, .slice none 0 0, .slice none 0 0, .slice none 0 0]
/-- the program on its way: its two blocks -/
structure PgBk (w wc : World) (N0 RB PB : Nat) (A : Option Addr) (k c : Nat) : Prop where
  be : Below w.heap.size w wc
  lo : N0 ≤ wc.heap.size
  rb : Blk wc RB 29 zcell
  pb : Blk wc PB 29 (pcell A k c)
  ap : RB ≠ PB ∧ RB < N0 ∧ PB < N0 ∧ w.heap.size ≤ RB ∧ w.heap.size ≤ PB ∧ w.heap.size ≤ N0
/-- behind the second data, whose parts are told one by one -/
structure PgL (wc : World) (N0 : Nat) (A : Option Addr) (c y b33 b38 b40 b42 : Nat) : Prop where
  row : ∃ cs, wc.ownsRow N0 83 3 (.slice A 2 c) 2 (cs ++ [str [76], .slice (some ⟨b33, 0, none⟩) 1 1, .slice (some ⟨b42, 0, none⟩) 2 2]) ∧ DtCells 4 wc (fun b => N0 ≤ b ∧ (Value.slice A 2 c).ownBlock ≠ some b ∧ b ≠ b42) cs (dD y)
  h33 : Blk wc b33 9 [str [97]]
  h38 : Blk wc b38 34 [.int .i64 5, str [97], .slice none 0 0]
  h40 : Blk wc b40 34 [.int .i64 5, str [97], .slice none 0 0, .int .i64 6, str [76], .slice (some ⟨b38, 0, none⟩) 1 1]
  h42 : Blk wc b42 80 [str [78], .slice none 0 0, str [67], .slice (some ⟨b40, 0, none⟩) 2 2]
  n33 : N0 ≤ b33 ∧ (Value.slice A 2 c).ownBlock ≠ some b33
  n38 : N0 ≤ b38 ∧ (Value.slice A 2 c).ownBlock ≠ some b38
  n40 : N0 ≤ b40 ∧ (Value.slice A 2 c).ownBlock ≠ some b40
  n42 : N0 ≤ b42 ∧ (Value.slice A 2 c).ownBlock ≠ some b42
theorem PgBk.put {w W : World} {N0 RB PB : Nat} {A A' : Option Addr} {k k' c c' : Nat} (hb : Below w.heap.size w W) (hN : N0 ≤ W.heap.size) (hr : Blk W RB 29 zcell) (hp : Blk W PB 29 (pcell A k c)) (ap : RB ≠ PB ∧ RB < N0 ∧ PB < N0 ∧ w.heap.size ≤ RB ∧ w.heap.size ≤ PB ∧ w.heap.size ≤ N0) :
    PgBk w (W.setCell ⟨PB, 3, none⟩ (.slice A' k' c')) N0 RB PB A' k' c' :=
  ⟨hb.setCell (p := ⟨PB, 3, none⟩) ap.2.2.2.2.1 _, by simp [World.setCell]; exact hN, (Below.heap_setCell W ⟨PB, 3, none⟩ _ RB ap.1).trans hr, hp.put 3 _, ap⟩
theorem dts_put {W : World} {N0 PB i : Nat} {v x : Value} {l : List Dt} (ho : DtsOwn W N0 v l) (hp : PB < N0) : DtsOwn (W.setCell ⟨PB, i, none⟩ x) N0 v l := by
  refine ho.keep (DtCells.stable 4) fun b hb _ => Below.heap_setCell W ⟨PB, i, none⟩ _ b ?_
  have h1 : N0 ≤ b := hb
  show b ≠ PB
  omega
theorem PgL.put {W : World} {N0 PB i : Nat} {A : Option Addr} {c y b33 b38 b40 b42 : Nat} {x : Value} (h : PgL W N0 A c y b33 b38 b40 b42) (hp : PB < N0) : PgL (W.setCell ⟨PB, i, none⟩ x) N0 A c y b33 b38 b40 b42 := by
  have hk : ∀ b, N0 ≤ b → (W.setCell ⟨PB, i, none⟩ x).heap[b]? = W.heap[b]? := fun b hb => Below.heap_setCell W ⟨PB, i, none⟩ _ b (by show b ≠ PB; omega)
  obtain ⟨⟨cs, h1, h2⟩, h33, h38, h40, h42, n33, n38, n40, n42⟩ := h
  refine ⟨⟨cs, ?_, (DtCells.stable 4).keep h2 fun b hb _ => hk b hb.1⟩, (hk _ n33.1).trans h33, (hk _ n38.1).trans h38, (hk _ n40.1).trans h40, (hk _ n42.1).trans h42, n33, n38, n40, n42⟩
  refine ⟨h1.1, ?_⟩
  rcases h1.2 with hn | ⟨g, cap, cur, e, hb, hg, rest⟩
  · exact .inl hn
  · exact .inr ⟨g, cap, cur, e, hb, (hk g hb).trans hg, rest⟩
theorem all2_two {α β : Type} {R : α → β → Prop} {a b : α} {x y : β} (h1 : R a x) (h2 : R b y) : All2 R [a, b] [x, y] := (all2_one h1).snoc h2
theorem PgL.alloc {W : World} {N0 : Nat} {A : Option Addr} {c y b33 b38 b40 b42 : Nat} (h : PgL W N0 A c y b33 b38 b40 b42) (o : Obj) : PgL (W.alloc o) N0 A c y b33 b38 b40 b42 := by
  obtain ⟨⟨cs, h1, h2⟩, h33, h38, h40, h42, n33, n38, n40, n42⟩ := h
  exact ⟨⟨cs, h1.alloc o, dt_alloc h2 o⟩, h33.alloc o, h38.alloc o, h40.alloc o, h42.alloc o, n33, n38, n40, n42⟩
theorem PgL.drew {W : World} {N0 : Nat} {A : Option Addr} {c y b33 b38 b40 b42 : Nat} (h : PgL W N0 A c y b33 b38 b40 b42) : PgL (World.drew W) N0 A c y b33 b38 b40 b42 := by
  obtain ⟨⟨cs, h1, h2⟩, h33, h38, h40, h42, n33, n38, n40, n42⟩ := h
  exact ⟨⟨cs, h1, (DtCells.stable 4).keep h2 fun b _ _ => rfl⟩, h33.drew, h38.drew, h40.drew, h42.drew, n33, n38, n40, n42⟩
theorem PgL.dts0 {W : World} {N0 : Nat} {A : Option Addr} {c y b33 b38 b40 b42 : Nat} (h : PgL W N0 A c y b33 b38 b40 b42) : DtsOwn W N0 (.slice A 2 c) [dD y, dL false] := by
  obtain ⟨⟨cs, h1, h2⟩, h33, h38, h40, h42, n33, n38, n40, n42⟩ := h
  refine ⟨[cs, [str [76], .slice (some ⟨b33, 0, none⟩) 1 1, .slice (some ⟨b42, 0, none⟩) 2 2]], by simpa using h1, all2_two ((DtCells.stable 4).imp h2 fun b hb _ => ⟨hb.1, hb.2.1⟩) (dtL0 (d := 2) h33 h38 h40 h42 n33 n38 n40 n42)⟩
/-- the row's block -/
theorem PgL.at_ {W : World} {N0 : Nat} {A : Option Addr} {c y b33 b38 b40 b42 : Nat} (h : PgL W N0 A c y b33 b38 b40 b42) : ∃ g, A = some ⟨g, 0, none⟩ ∧ N0 ≤ g ∧ g < W.heap.size ∧ W.cell? ⟨g, 5, none⟩ = some (.slice (some ⟨b42, 0, none⟩) 2 2) := by
  obtain ⟨⟨cs, h1, h2⟩, _⟩ := h
  have hl := (DtCells.stable 4).len h2
  obtain ⟨_, _, hr⟩ := own_reads (by omega) h1
  obtain ⟨g, o, e, _, hc⟩ := hr.2 (by omega)
  have h5 := hc 5 (.slice (some ⟨b42, 0, none⟩) 2 2) (by rw [List.getElem?_append_right (by omega), hl]; rfl)
  rcases h1.2 with ⟨e1, _⟩ | ⟨g', cap, cur, e1, hb, hg, rest⟩
  · injection e1 with e1 e2; omega
  · injection e1 with e1 _ _
    rw [e1] at e
    injection e with e
    injection e with e3 e4
    subst e3 e4
    refine ⟨g', e1, hb, (Array.getElem?_eq_some_iff.1 hg).1, by simpa using h5⟩
theorem PgL.dts1 {W : World} {N0 : Nat} {A : Option Addr} {c y b33 b38 b40 b42 b58 : Nat} (h : PgL W N0 A c y b33 b38 b40 b42) (h58 : Blk W b58 34 [.int .i64 6, str [68], .slice none 0 0]) (n58 : N0 ≤ b58 ∧ (Value.slice A 2 c).ownBlock ≠ some b58) :
    DtsOwn ((W.setCell ⟨b42, 0, none⟩ (str [78])).setCell ⟨b42, 1, none⟩ (.slice (some ⟨b58, 0, none⟩) 1 1)) N0 (.slice A 2 c) [dD y, dL true] := by
  obtain ⟨⟨cs, h1, h2⟩, h33, h38, h40, h42, n33, n38, n40, n42⟩ := h
  have hk : ∀ b, b ≠ b42 → ((W.setCell ⟨b42, 0, none⟩ (str [78])).setCell ⟨b42, 1, none⟩ (.slice (some ⟨b58, 0, none⟩) 1 1)).heap[b]? = W.heap[b]? := fun b hb => (Below.heap_setCell _ ⟨b42, 1, none⟩ _ b hb).trans (Below.heap_setCell W ⟨b42, 0, none⟩ _ b hb)
  have e33 : b33 ≠ b42 := fun e => by rw [e] at h33; have := h33.symm.trans h42; simp at this
  have e38 : b38 ≠ b42 := fun e => by rw [e] at h38; have := h38.symm.trans h42; simp at this
  have e40 : b40 ≠ b42 := fun e => by rw [e] at h40; have := h40.symm.trans h42; simp at this
  have e58 : b58 ≠ b42 := fun e => by rw [e] at h58; have := h58.symm.trans h42; simp at this
  have g42 := (h42.put 0 (str [78])).put 1 (.slice (some ⟨b58, 0, none⟩) 1 1)
  refine ⟨[cs, [str [76], .slice (some ⟨b33, 0, none⟩) 1 1, .slice (some ⟨b42, 0, none⟩) 2 2]], ?_, all2_two ((DtCells.stable 4).imp ((DtCells.stable 4).keep h2 fun b hb _ => hk b hb.2.2) fun b hb _ => ⟨hb.1, hb.2.1⟩) (dtL1 (d := 2) ((hk _ e33).trans h33) ((hk _ e38).trans h38) ((hk _ e40).trans h40) g42 ((hk _ e58).trans h58) n33 n38 n40 n42 n58)⟩
  have h1' : W.ownsRow N0 83 3 (.slice A 2 c) 2 ([cs, [str [76], .slice (some ⟨b33, 0, none⟩) 1 1, .slice (some ⟨b42, 0, none⟩) 2 2]] : List (List Value)).flatten := by simpa using h1
  refine ⟨h1'.1, ?_⟩
  rcases h1'.2 with hn | ⟨g, cap, cur, e, hb, hg, rest⟩
  · exact .inl hn
  · exact .inr ⟨g, cap, cur, e, hb, (hk g (fun e9 => n42.2 (by rw [e, ← e9]; rfl))).trans hg, rest⟩
theorem one_b (k : Nat) (w : World) : Calls Try.prog 26 #[.int .i64 (k : Nat)] w fun e w' => e = .returned (.agg #[.int .i64 (k : Nat), str [], .slice none 0 0]) ∧ Below w.heap.size w w' :=
  (one_any k w).mono fun e w' h => ⟨h.1, by rw [h.2]; exact (Below.refl _ _).alloc (Nat.le_refl _) _⟩
theorem named_b (n : Nm) (A : Option Addr) (m c : Nat) (w : World) : Calls Try.prog 27 #[str n, .slice A m c] w fun e w' => e = .returned (.agg #[.int .i64 6, str n, .slice A m c]) ∧ Below w.heap.size w w' :=
  (named_any n A m c w).mono fun e w' h => ⟨h.1, by rw [h.2]; exact (Below.refl _ _).alloc (Nat.le_refl _) _⟩
theorem TsAt.rows {d : Nat} {w : World} {D : Nat → Prop} {b n : Nat} {t : TypeId} {vss : List (List Value)} {ts : List Ty} (h : Blk w b t vss.flatten) (hD : D b) (ha : All2 (TCells d w D) vss ts) (hn : n = ts.length) (hl : vss.flatten.length = n * 3) (h1 : n ≤ 1000) : TsAt d w D (some ⟨b, 0, none⟩) n n ts :=
  ⟨vss, hn, h1, Nat.le_refl _, by unfold maxLen; omega, h.reads hD hl, ha⟩
/-- the types of the laws, in one row -/
theorem types_at {w : World} {D : Nat → Prop} {b90 b96 b98 b104 b106 : Nat} {t1 t2 t3 t4 t5 : TypeId} (h90 : Blk w b90 t1 [.int .i64 1, str [], .slice none 0 0]) (h96 : Blk w b96 t2 [.int .i64 6, str [68], .slice none 0 0]) (h98 : Blk w b98 t3 [.int .i64 6, str [76], .slice (some ⟨b96, 0, none⟩) 1 1]) (h104 : Blk w b104 t4 [.int .i64 6, str [68], .slice none 0 0])
    (h106 : Blk w b106 t5 [.int .i64 1, str [], .slice none 0 0, .int .i64 2, str [], .slice none 0 0, .int .i64 3, str [], .slice none 0 0, .int .i64 4, str [], .slice none 0 0, .int .i64 6, str [68], .slice none 0 0, .int .i64 6, str [76], .slice (some ⟨b90, 0, none⟩) 1 1, .int .i64 6, str [76], .slice (some ⟨b98, 0, none⟩) 1 1, .int .i64 6, str [69], .slice none 0 0, .int .i64 9, str [], .slice (some ⟨b104, 0, none⟩) 1 1])
    (d90 : D b90) (d96 : D b96) (d98 : D b98) (d104 : D b104) (d106 : D b106) : TsAt 4 w D (some ⟨b106, 0, none⟩) 9 9 typesF := by
  have hD : TCells 1 w D [.int .i64 6, str [68], .slice none 0 0] tD := TCells.lone (k := 6) (by omega) (by simp)
  refine TsAt.rows (vss := [[.int .i64 1, str [], .slice none 0 0], [.int .i64 2, str [], .slice none 0 0], [.int .i64 3, str [], .slice none 0 0], [.int .i64 4, str [], .slice none 0 0], [.int .i64 6, str [68], .slice none 0 0], [.int .i64 6, str [76], .slice (some ⟨b90, 0, none⟩) 1 1], [.int .i64 6, str [76], .slice (some ⟨b98, 0, none⟩) 1 1], [.int .i64 6, str [69], .slice none 0 0], [.int .i64 9, str [], .slice (some ⟨b104, 0, none⟩) 1 1]]) (by simpa using h106) d106 ?_ rfl rfl (by omega)
  refine All2.cons_mk (TCells.one (k := 1) (by omega)) (All2.cons_mk (TCells.one (k := 2) (by omega)) (All2.cons_mk (TCells.one (k := 3) (by omega)) (All2.cons_mk (TCells.one (k := 4) (by omega)) (All2.cons_mk (TCells.lone (k := 6) (by omega) (by simp)) (All2.cons_mk (TCells.with1 (k := 6) (by omega) (by simp) h90 d90 (TCells.one (k := 1) (by omega))) (All2.cons_mk (TCells.with1 (k := 6) (by omega) (by simp) h98 d98 (TCells.with1 (k := 6) (by omega) (by simp) h96 d96 (TCells.lone (k := 6) (by omega) (by simp)))) (All2.cons_mk (TCells.lone (k := 6) (by omega) (by simp)) (All2.cons_mk (TCells.with1 (k := 9) (by omega) (by simp) h104 d104 (TCells.lone (k := 6) (by omega) (by simp))) All2.nil))))))))
/-- the fields of a program of the laws: the numbers of their types -/
def idxF (bits : Nat) : Nat → List Nat
  | 0 => []
  | j + 1 => if bits / 2 ^ j % 2 = 1 ∧ (idxF bits j).length < 6 then idxF bits j ++ [j] else idxF bits j
def tyF (i : Nat) : Ty := typesF[i]?.getD (oneT 1)
def nmF (i : Nat) : Nm := [chr (5 + i)]
/-- the cells of the actor -/
def acell (An : Option Addr) (k cn : Nat) (At : Option Addr) (ct q : Nat) : List Value := [str [65], .slice An k cn, .slice At k ct, .int .i64 ((1 + q : Nat) : Int), str [], .slice none 0 0, .int .i64 1, .int .i64 0, str [], .slice none 0 0, .slice none 0 0, .slice none 0 0, .slice none 0 0, .int .i64 0]
theorem idxF_le (bits j : Nat) : (idxF bits j).length ≤ 6 ∧ (idxF bits j).length ≤ j ∧ ∀ i ∈ idxF bits j, i < j := by
  induction j with
  | zero => simp [idxF]
  | succ j ih =>
    obtain ⟨h1, h2, h3⟩ := ih
    unfold idxF
    split
    · rename_i h
      refine ⟨by simp; omega, by simp; omega, fun i hi => ?_⟩
      rcases List.mem_append.1 hi with hi | hi
      · have := h3 i hi; omega
      · rw [List.mem_singleton] at hi; omega
    · exact ⟨h1, by omega, fun i hi => by have := h3 i hi; omega⟩
/-- the actor on its way -/
structure ActAt (t3 wc : World) (N1 AB : Nat) (Dn : Nat → Prop) (An : Option Addr) (cn : Nat) (At : Option Addr) (ct q : Nat) (l : List Nat) : Prop where
  gr : t3.grownBy wc (some AB)
  ab : Blk wc AB 40 (acell An l.length cn At ct q)
  on : wc.ownsRow N1 9 1 (.slice An l.length cn) l.length (strs (l.map nmF))
  ot : ∃ vss : List (List Value), wc.ownsRow N1 34 3 (.slice At l.length ct) l.length vss.flatten ∧ All2 (TCells 4 wc Dn) vss (l.map tyF)
theorem own_apart {w : World} {base base' : Nat} {e e' : TypeId} {size size' n n' : Nat} {v v' : Value} {xs xs' : List Value} (h : w.ownsRow base e size v n xs) (h' : w.ownsRow base' e' size' v' n' xs') (hne : e ≠ e') (b : Nat) (hb : v.ownBlock = some b) : v'.ownBlock ≠ some b := by
  intro hb'
  rcases h.2 with ⟨rfl, _⟩ | ⟨g, cap, cur, rfl, _, hg, _⟩
  · simp [Value.ownBlock] at hb
  · rcases h'.2 with ⟨rfl, _⟩ | ⟨g', cap', cur', rfl, _, hg', _⟩
    · simp [Value.ownBlock] at hb'
    · simp [Value.ownBlock] at hb hb'
      subst hb hb'
      rw [hg] at hg'
      injection hg' with hg'
      injection hg' with _ hg'
      exact hne hg'
theorem i64_and1 (n : Int) : Go.bits .and .i64 n 1 = n % 2 := by
  have h127 : (BitVec.ofInt 64 1).toNat = 2 ^ 1 - 1 := by decide
  have key : (BitVec.ofInt 64 n &&& BitVec.ofInt 64 1).toNat = (n % ((2 ^ 64 : Nat) : Int)).toNat % 2 ^ 1 := by
    rw [BitVec.toNat_and, BitVec.toNat_ofInt, h127, Nat.and_two_pow_sub_one_eq_mod]
  show IntKind.i64.wrap ((BitVec.ofInt 64 n &&& BitVec.ofInt 64 1).toNat : Nat) = n % 2
  rw [key, IntKind.wrap_i64]
  omega
theorem bit_at (bits i r : Nat) (h : bits / 2 ^ i % 2 = r) : Go.bits .and .i64 ((bits : Int) / 2 ^ i) 1 = (r : Int) := by
  rw [i64_and1, ← h]
  have : ((bits / 2 ^ i % 2 : Nat) : Int) = ((bits : Int) / 2 ^ i) % 2 := by
    rw [Int.natCast_emod, Int.natCast_ediv, Int.natCast_pow]
    rfl
  exact this.symm
theorem cv_blk {w : World} {b q : Nat} {e : TypeId} {v : Int} (hq : ((chr q).toNat : Int) = v) (h : Blk w b e [.int .u8 v]) : (convert 84 9 (.slice (some ⟨b, 0, none⟩) 1 1)).run Try.prog w = .ok (str [chr q]) w :=
  run_convert_reads _ _ _ _ Try.underlying84 Try.underlying5 Try.underlying9 (bs := [chr q]) (D := Any) (h.reads (size := 1) (n := 1) trivial rfl |> fun r => by rw [← hq] at r; exact r)
theorem info_parts' {P : Program} {t : TypeId} {z : Value} {s b : Nat} (h : (P.info? t).map (fun i => (i.zero, i.size, i.bytes)) = some (some z, s, b)) : ∃ i, P.info? t = some i ∧ i.zero = some z ∧ i.size = s ∧ i.bytes = b := by
  obtain ⟨i, h1, h2⟩ := Option.map_eq_some_iff.1 h
  injection h2 with h2 h3
  injection h3 with h3 h4
  exact ⟨i, h1, h2, h3, h4⟩
theorem info_st : (Try.prog.info? 9).map (fun i => (i.zero, i.size, i.bytes)) = some (some (.string ⟨#[]⟩), 1, 16) := by kernel_rfl
theorem info_ty : (Try.prog.info? 34).map (fun i => (i.zero, i.size, i.bytes)) = some (some (.agg #[.int .i64 0, .string ⟨#[]⟩, .slice none 0 0]), 3, 48) := by kernel_rfl
theorem step_app_st (w : World) {ops : Array Oper} {o : Oper} {a : Act} {K : Act → World → Prop} {Q : Exit → Act → World → Prop} {E : Prop} (hgd : o.guard = none) (s x : Operand)
    (ho : o.op = .call { callee := .builtin .append, args := #[s, x], argTypes := #[31, 31] })
    {base : Nat} {v : Value} {n : Nat} {xs : List Value} (hown : w.ownsRow base 9 1 v n xs) (hs : a.eval s = v)
    {D : Nat → Prop} {A : Option Addr} {m : Nat} {news : List Value} (hr : Reads w D 1 A m news) {c : Nat} (hx : a.eval x = .slice A m c) (h1 : ∀ u ∈ news, u.oneCell' = true)
    (h63 : n + m ≤ 100000000) (hbase : base ≤ w.heap.size)
    (h : ∀ v' w', w'.ownsRow base 9 1 v' (n + m) (xs ++ news) → w.grownBy w' v.ownBlock → (v'.ownBlock = v.ownBlock ∨ v'.ownBlock = some w.heap.size) → K (a.put o.dst v') w') :
    if Region.wanted o (yielded ops a.tmps) = true then Oper.wp Try.prog o a w K Q else E := by
  obtain ⟨i0, hi0, hz0, hz1, hz2⟩ := info_parts' info_st
  exact step_append_any w hgd s x _ ho base _ i0 _ 1 16 Try.underlying31 hi0 hz0 hz1 hz2 rfl (by omega) v n xs hs hown D A m c news hx hr h1 (by simp only [maxLen]; omega) (by omega) hbase h
theorem step_app_ty (w : World) {ops : Array Oper} {o : Oper} {a : Act} {K : Act → World → Prop} {Q : Exit → Act → World → Prop} {E : Prop} (hgd : o.guard = none) (s x : Operand)
    (ho : o.op = .call { callee := .builtin .append, args := #[s, x], argTypes := #[32, 32] })
    {base : Nat} {v : Value} {n : Nat} {xs : List Value} (hown : w.ownsRow base 34 3 v n xs) (hs : a.eval s = v)
    {D : Nat → Prop} {A : Option Addr} {m : Nat} {news : List Value} (hr : Reads w D 3 A m news) {c : Nat} (hx : a.eval x = .slice A m c) (h1 : ∀ u ∈ news, u.oneCell' = true)
    (h63 : n + m ≤ 100000000) (hbase : base ≤ w.heap.size)
    (h : ∀ v' w', w'.ownsRow base 34 3 v' (n + m) (xs ++ news) → w.grownBy w' v.ownBlock → (v'.ownBlock = v.ownBlock ∨ v'.ownBlock = some w.heap.size) → K (a.put o.dst v') w') :
    if Region.wanted o (yielded ops a.tmps) = true then Oper.wp Try.prog o a w K Q else E := by
  obtain ⟨i0, hi0, hz0, hz1, hz2⟩ := info_parts' info_ty
  exact step_append_any w hgd s x _ ho base _ i0 _ 3 48 Try.underlying32 hi0 hz0 hz1 hz2 rfl (by omega) v n xs hs hown D A m c news hx hr h1 (by simp only [maxLen]; omega) (by omega) hbase h
theorem tys_alloc {w : World} {D : Nat → Prop} {vss : List (List Value)} {l : List Ty} (h : All2 (TCells 4 w D) vss l) (o : Obj) : All2 (TCells 4 (w.alloc o) D) vss l := h.imp fun x y hxy => hxy.keep fun b _ hl => Below.heap_alloc w o b hl
theorem TyAt.tcells {d : Nat} {w : World} {D : Nat → Prop} {k : Nat} {n : Nm} {A : Option Addr} {m c : Nat} {t : Ty} (h : TyAt d w D k n A m c t) : TCells d w D [.int .i64 (k : Nat), str n, .slice A m c] t := by
  obtain ⟨h1, h2, h3, h4, e, rfl, vss, h5, h6, h7, h8, h9, h10⟩ := h
  obtain ⟨k', n', ts⟩ := t
  simp only [Ty.kind, Ty.name, Ty.args] at h1 h2 h5 h10
  subst h1 h2 h5
  exact ⟨A, c, vss, rfl, h3, h4, h6, h7, h8, h9, h10⟩
theorem tyF_at {i : Nat} (h : i < typesF.length) : tyF i = typesF[i] := by
  unfold tyF
  rw [List.getElem?_eq_getElem h]
  rfl
theorem chr5 (i : Nat) (h : i < 9) : ((chr (5 + i)).toNat : Int) = 102 + (i : Int) := by
  rw [chr_val (5 + i) (by omega)]
  omega
theorem own_kept {w : World} {base base' : Nat} {e e' : TypeId} {size size' n n' : Nat} {v v' : Value} {xs xs' : List Value} (h : w.ownsRow base e size v n xs) (h' : w.ownsRow base' e' size' v' n' xs') (hne : e ≠ e') : v.ownBlock = none ∨ v.ownBlock ≠ v'.ownBlock := by
  rcases hv : v.ownBlock with _ | k
  · exact .inl rfl
  · exact .inr fun e1 => own_apart h h' hne k hv e1.symm
theorem own_set {w : World} {base n PB i : Nat} {e : TypeId} {size : Nat} {v x : Value} {xs : List Value} (h : w.ownsRow base e size v n xs) (hp : PB < base) : (w.setCell ⟨PB, i, none⟩ x).ownsRow base e size v n xs := by
  refine ⟨h.1, ?_⟩
  rcases h.2 with hn | ⟨g, cap, cur, e, hb, hg, rest⟩
  · exact .inl hn
  · exact .inr ⟨g, cap, cur, e, hb, (Below.heap_setCell w ⟨PB, i, none⟩ _ g (by show g ≠ PB; omega)).trans hg, rest⟩
theorem grown_set {t3 w : World} {AB i : Nat} {x : Value} (h : t3.grownBy w (some AB)) : t3.grownBy (w.setCell ⟨AB, i, none⟩ x) (some AB) :=
  ⟨h.os, h.tape, h.output, by simp [World.setCell]; exact h.size, fun k hk hne => (Below.heap_setCell w ⟨AB, i, none⟩ _ k (fun e => hne (by rw [e]))).trans (h.block k hk hne)⟩
theorem act_put {t3 V : World} {N1 AB lo : Nat} {An An' At At' : Option Addr} {cn cn' ct ct' q i : Nat} {L : List Nat} {vss : List (List Value)} {cs : List Value} {k : Nat} (hg : t3.grownBy V (some AB)) (ha : Blk V AB 40 (acell An L.length cn At ct q))
    (hn : V.ownsRow N1 9 1 (.slice An' (L.length + 1) cn') (L.length + 1) (strs (L.map nmF) ++ [str [chr (5 + i)]])) (ht : V.ownsRow N1 34 3 (.slice At' (L.length + 1) ct') (L.length + 1) (vss.flatten ++ cs)) (hd : All2 (TCells 4 V (fun b => lo ≤ b ∧ b < AB)) vss (L.map tyF)) (hc : TCells 4 V (fun b => lo ≤ b ∧ b < AB) cs (tyF i)) (hk : k = L.length + 1) (hAB : AB < N1) :
    ActAt t3 ((V.setCell ⟨AB, 1, none⟩ (.slice An' (L.length + 1) cn')).setCell ⟨AB, 2, none⟩ (.slice At' (L.length + 1) ct')) N1 AB (fun b => lo ≤ b ∧ b < AB) An' cn' At' ct' q (L ++ [i]) := by
  have e1 : (L ++ [i]).length = L.length + 1 := by simp
  have hs : ∀ b, b < AB → ((V.setCell ⟨AB, 1, none⟩ (.slice An' (L.length + 1) cn')).setCell ⟨AB, 2, none⟩ (.slice At' (L.length + 1) ct')).heap[b]? = V.heap[b]? := fun b hb => (Below.heap_setCell _ ⟨AB, 2, none⟩ _ b (by show b ≠ AB; omega)).trans (Below.heap_setCell V ⟨AB, 1, none⟩ _ b (by show b ≠ AB; omega))
  refine ⟨grown_set (grown_set hg), ?_, ?_, vss ++ [cs], ?_, ?_⟩
  · rw [e1]
    exact (ha.put 1 _).put 2 _
  · rw [e1, List.map_append]
    have := own_set (i := 2) (x := .slice At' (L.length + 1) ct') (own_set (i := 1) (x := .slice An' (L.length + 1) cn') hn hAB) hAB
    simpa [strs, nmF] using this
  · rw [e1, List.flatten_append, List.flatten_singleton]
    exact own_set (own_set ht hAB) hAB
  · rw [List.map_append, List.map_singleton]
    exact (hd.imp fun x y hxy => hxy.keep fun b hb _ => hs b hb.2).snoc (hc.keep fun b hb _ => hs b hb.2)
/-- a program of the laws in memory -/
structure PgmAt (w : World) (p : Pg) (y : Nat) (bad : Bool) (q : Nat) (L : List Nat) : Prop where
  dts : DtsAt 4 w Any p.A p.n p.c [dD y, dL bad, dE]
  one : p.m = 1
  act : ∃ bc An cn At ct, p.B = some ⟨bc, 0, none⟩ ∧ Blk w bc 40 (acell An L.length cn At ct q) ∧ L.length ≤ cn ∧ cn ≤ maxLen ∧ Reads w Any 1 An L.length (strs (L.map nmF)) ∧ TsAt 4 w Any At L.length ct (L.map tyF)
/-- what programOf hands back -/
def PgPost (w : World) : Ending → World → Prop := fun e w' => Below w.heap.size w w' ∧ ∃ p y bad q bits, e = .returned (.agg (Pg.cells p).toArray) ∧ (1 ≤ y ∧ y ≤ 2) ∧ q < 2 ∧ (1 ≤ bits ∧ bits ≤ 511) ∧ PgmAt w' p y bad q (idxF bits 9)
/-- the world at programOf's end, but for the actor's row -/
abbrev endW (wr : World) (PB RB : Nat) (A3 : Option Addr) (c3 : Nat) : World := ((((((((wr.setCell ⟨PB, 7, none⟩ (.slice (some ⟨wr.heap.size, 0, none⟩) 1 1)).setCell ⟨RB, 0, none⟩ (.string ⟨#[109]⟩)).setCell ⟨RB, 1, none⟩ (.int .i64 1)).setCell ⟨RB, 2, none⟩ (.slice none 0 0)).setCell ⟨RB, 3, none⟩ (.slice A3 3 c3)).setCell ⟨RB, 4, none⟩ (.slice none 0 0)).setCell ⟨RB, 5, none⟩ (.slice none 0 0)).setCell ⟨RB, 6, none⟩ (.slice none 0 0)).setCell ⟨RB, 7, none⟩ (.slice (some ⟨wr.heap.size, 0, none⟩) 1 1)
theorem endW_heap (wr : World) (PB RB : Nat) (A3 : Option Addr) (c3 : Nat) {b : Nat} (h1 : b ≠ PB) (h2 : b ≠ RB) : (endW wr PB RB A3 c3).heap[b]? = wr.heap[b]? := (Below.heap_setCell _ ⟨RB, 7, none⟩ _ b h2).trans ((Below.heap_setCell _ ⟨RB, 6, none⟩ _ b h2).trans ((Below.heap_setCell _ ⟨RB, 5, none⟩ _ b h2).trans ((Below.heap_setCell _ ⟨RB, 4, none⟩ _ b h2).trans ((Below.heap_setCell _ ⟨RB, 3, none⟩ _ b h2).trans ((Below.heap_setCell _ ⟨RB, 2, none⟩ _ b h2).trans ((Below.heap_setCell _ ⟨RB, 1, none⟩ _ b h2).trans ((Below.heap_setCell _ ⟨RB, 0, none⟩ _ b h2).trans (Below.heap_setCell wr ⟨PB, 7, none⟩ _ b h1))))))))
theorem endW_size (wr : World) (PB RB : Nat) (A3 : Option Addr) (c3 : Nat) : (endW wr PB RB A3 c3).heap.size = wr.heap.size := by simp [endW, World.setCell]
theorem pgm_end {w wr : World} {RB PB N0 N1 AB lo : Nat} {A3 An At : Option Addr} {c3 cn ct q y bits : Nat} {bad : Bool} {L : List Nat} (hap : RB ≠ PB ∧ RB < N0 ∧ PB < N0 ∧ w.heap.size ≤ RB ∧ w.heap.size ≤ PB ∧ w.heap.size ≤ N0) (fRB : Blk wr RB 29 zcell)
    (hdo : DtsOwn wr N0 (.slice A3 3 c3) [dD y, dL bad, dE]) (hon : wr.ownsRow N1 9 1 (.slice An L.length cn) L.length (strs (L.map nmF))) (hot : ∃ vss : List (List Value), wr.ownsRow N1 34 3 (.slice At L.length ct) L.length vss.flatten ∧ All2 (TCells 4 wr (fun b => lo ≤ b ∧ b < AB)) vss (L.map tyF)) (hbe : Below w.heap.size w wr)
    (hN1 : N0 ≤ N1) (hlo : N0 ≤ lo) (hL : L.length ≤ 6) (hL0 : L = idxF bits 9) (hy : 1 ≤ y ∧ y ≤ 2) (hq : q < 2) (hbits : 1 ≤ bits ∧ bits ≤ 511) :
    Blk ((endW wr PB RB A3 c3).alloc (.cells (acell An L.length cn At ct q).toArray 40)) RB 29 (Pg.cells ⟨A3, 3, c3, some ⟨wr.heap.size, 0, none⟩, 1, 1⟩) ∧ PgPost w (.returned (.agg (Pg.cells ⟨A3, 3, c3, some ⟨wr.heap.size, 0, none⟩, 1, 1⟩).toArray)) ((endW wr PB RB A3 c3).alloc (.cells (acell An L.length cn At ct q).toArray 40)) := by
  have hk : ∀ b, b < wr.heap.size → N0 ≤ b → ((endW wr PB RB A3 c3).alloc (.cells (acell An L.length cn At ct q).toArray 40)).heap[b]? = wr.heap[b]? := fun b hb hn => (Below.heap_alloc _ _ b (by rw [endW_size]; exact hb)).trans (endW_heap wr PB RB A3 c3 (by omega) (by omega))
  have fRB1 : Blk (wr.setCell ⟨PB, 7, none⟩ (.slice (some ⟨wr.heap.size, 0, none⟩) 1 1)) RB 29 zcell := (Below.heap_setCell wr ⟨PB, 7, none⟩ _ RB hap.1).trans fRB
  have hend := ((((((((fRB1.put 0 (.string ⟨#[109]⟩)).put 1 (.int .i64 1)).put 2 (.slice none 0 0)).put 3 (.slice A3 3 c3)).put 4 (.slice none 0 0)).put 5 (.slice none 0 0)).put 6 (.slice none 0 0)).put 7 (.slice (some ⟨wr.heap.size, 0, none⟩) 1 1))
  refine ⟨hend.alloc _, (((((((((hbe.setCell (p := ⟨PB, 7, none⟩) hap.2.2.2.2.1 _).setCell (p := ⟨RB, 0, none⟩) hap.2.2.2.1 _).setCell (p := ⟨RB, 1, none⟩) hap.2.2.2.1 _).setCell (p := ⟨RB, 2, none⟩) hap.2.2.2.1 _).setCell (p := ⟨RB, 3, none⟩) hap.2.2.2.1 _).setCell (p := ⟨RB, 4, none⟩) hap.2.2.2.1 _).setCell (p := ⟨RB, 5, none⟩) hap.2.2.2.1 _).setCell (p := ⟨RB, 6, none⟩) hap.2.2.2.1 _).setCell (p := ⟨RB, 7, none⟩) hap.2.2.2.1 _).alloc (by rw [endW_size]; exact hbe.size) _, _, y, bad, q, bits, rfl, hy, hq, hbits, ?_⟩
  subst hL0
  refine ⟨?_, rfl, wr.heap.size, An, cn, At, ct, rfl, ?_, ?_, ?_, ?_, ?_⟩
  · obtain ⟨vs, h1, h2, h3, h4, h5⟩ := OwnList.reads (DtCells.stable 4) (by omega) hdo
    exact ⟨vs, rfl, (by show 3 ≤ 1000; omega), h2, h3, (h4.keep fun b hb hl => hk b hl hb).imp (by omega) fun _ _ _ => trivial, h5.imp fun x z hxz => (DtCells.stable 4).imp ((DtCells.stable 4).keep hxz fun b hb hl => hk b hl hb) fun _ _ _ => trivial⟩
  · have h := Blk.new (endW wr PB RB A3 c3) 40 (acell An (idxF bits 9).length cn At ct q)
    rw [endW_size] at h
    exact h
  · exact (own_reads (by omega) hon).1
  · exact (own_reads (by omega) hon).2.1
  · exact ((own_reads (by omega) hon).2.2.keep fun b hb hl => hk b hl (Nat.le_trans hN1 hb)).imp (by omega) fun _ _ _ => trivial
  · obtain ⟨vss, ho, ha⟩ := hot
    obtain ⟨h1, h2, h3⟩ := own_reads (by omega) ho
    exact ⟨vss, by simp, by omega, h1, h2, (h3.keep fun b hb hl => hk b hl (Nat.le_trans hN1 hb)).imp (by omega) fun _ _ _ => trivial, ha.imp fun x z hxz => (hxz.keep fun b hb hl => hk b hl (Nat.le_trans hlo hb.1)).imp fun _ _ _ => trivial⟩
end Go.Proofs.Ytoddjdajjmcliaa
