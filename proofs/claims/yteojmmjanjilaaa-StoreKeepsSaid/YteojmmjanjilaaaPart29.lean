/- Snapshots in memory; contract of store.packed. · Ways and snapshots in memory. -/
import Derived.Test.YteojmmjanjilaaaPart27
import Derived.Test.YteojmmjanjilaaaPart28
import Derived.Test.YteojmmjanjilaaaPart19
set_option linter.unusedVariables false
namespace Go.Proofs.Yteojmmjanjilaaa
open Go.RowKit Go.Mem Go.Val Go.Chunk

/-- letters that are all right, and not too many bytes -/
def NiceLs (l : List L) : Prop := (∀ x ∈ l, NiceL x) ∧ l.length ≤ 5
theorem NiceLs.pack {l : List L} (h : NiceLs l) : (∀ p ∈ l.map (encL 41), p.length ≤ 65535) ∧ (packF (l.map (encL 41))).length ≤ 65536 ∧ (l.map (encL 41)).length ≤ 65536 := by
  have h1 : ∀ p ∈ l.map (encL 41), p.length ≤ 12000 := by
    intro p hp
    obtain ⟨x, hx, rfl⟩ := List.mem_map.1 hp
    exact (h.1 x hx).2.2.2.2
  refine ⟨fun p hp => by have := h1 p hp; omega, ?_, by have := h.2; simp; omega⟩
  rw [packF_length]
  have h2 := sizeF_le _ 12000 h1
  have h3 := h.2
  have h4 := Nat.mul_le_mul_right (2 + 12000) (show (l.map (encL 41)).length ≤ 5 by simpa using h3)
  omega
theorem map_take_succ {α β : Type} (f : α → β) (l : List α) (k : Nat) (h : k < l.length) : (l.take (k + 1)).map f = (l.take k).map f ++ [f l[k]] := by
  rw [List.take_succ_eq_append_getElem h, List.map_append]
  rfl

set_option maxRecDepth 100000 in
set_option maxHeartbeats 2000000 in
theorem packed_any (A : Option Addr) (n c : Nat) (l : List L) (vss : List (List Value)) (w : World) (hn : n = l.length) (hnice : NiceLs l) (hr : Reads w Any 9 A n vss.flatten) (ha : All2 (LCells 41 w Any) vss l) :
    Calls Try.prog 33 #[.slice A n c] w (WrPost w (packF (l.map (encL 41)))) := by
  have Hn := Lib.hid hn
  have hn5 : n ≤ 5 := by have := hnice.2; omega
  have Hni := Lib.hid hnice
  clear hn hnice
  go_enter Try.func33, Try.ntmps33
  go_wp2
  go_loopw [4, 11] (fun v i wr => ∃ k : Nat, k ≤ n ∧ i = .int .i64 k ∧ OwnList 62 1 BytesCell wr w.heap.size v ((l.take k).map (encL 41)) ∧ Below w.heap.size w wr) (fun _ i _ => n - (intOf i).toNat)
  case atStart => exact ⟨0, Nat.zero_le _, rfl, OwnList.nil _ _ _ _, Below.refl _ _⟩
  case round =>
    obtain ⟨k, hk, rfl, hown, hb⟩ := hrel
    by_cases hlt : k < n
    · have hkl : k < l.length := by have := Hn.out; omega
      obtain ⟨b, off, cs, rfl, hD, hv, hcell⟩ := hr.elem (LCells.stable 41) ha Hn.out hkl
      have hsame : Same Any w wr := Same.any hb
      have hv2 := (LCells.stable 41).keep hv hsame
      have HT := Lib.hid (map_take_succ (encL 41) l k hkl)
      have hok := Hni.out.1 _ (List.getElem_mem hkl)
      generalize l[k] = X at hv hv2 HT hok
      obtain ⟨lk, lf, lt, ln, ls, ⟨vk, vn, vt, va⟩⟩ := X
      obtain ⟨vs, rfl, hfit, hvv⟩ := hv
      obtain ⟨A4, c4, rfl⟩ := hvv.form
      simp only [V.kind, V.num, V.text, V.args] at hcell hv2
      have g0 := hsame.cell hD (hcell 0 _ rfl)
      have g1 := hsame.cell hD (hcell 1 _ rfl)
      have g2 := hsame.cell hD (hcell 2 _ rfl)
      have g3 := hsame.cell hD (hcell 3 _ rfl)
      have g4 := hsame.cell hD (hcell 4 _ rfl)
      have g5 := hsame.cell hD (hcell 5 _ rfl)
      have g6 := hsame.cell hD (hcell 6 _ rfl)
      have g7 := hsame.cell hD (hcell 7 _ rfl)
      have g8 := hsame.cell hD (hcell 8 _ rfl)
      simp only [Nat.add_zero, ← Nat.add_assoc] at g0 g1 g2 g3 g4 g5 g6 g7 g8
      have l4 := lt_of_cell g0
      have Hok := Lib.hid hok
      clear hcell hfit hvv hok
      go_wp2_with (fail)
      obtain ⟨W, hW⟩ : ∃ W, W = wr.alloc (.cells #[.int .i64 lk, .int .i64 lf, .int .i64 lt, .int .i64 ln, .string ls, .int .i64 vk, .int .i64 vn, .string vt, .slice A4 va.length c4] 55) := ⟨_, rfl⟩
      have hbW : Below wr.heap.size wr W := by rw [hW]; exact (Below.refl _ _).alloc (Nat.le_refl _) _
      have hvW := (LCells.stable 41).keep hv2 (Same.any (D := Any) hbW)
      rw [← hW]
      clear hW g0 g1 g2 g3 g4 g5 g6 g7 g8 hv2
      refine (bytesL_any 41 ⟨lk, lf, lt, ln, ls, V.mk vk vn vt va⟩ [.int .i64 lk, .int .i64 lf, .int .i64 lt, .int .i64 ln, .string ls, .int .i64 vk, .int .i64 vn, .string vt, .slice A4 va.length c4] W (by omega) hvW Hok.out.1 Hok.out.2.1 (by have := Hok.out.2.2.2.2; omega)).mono ?_
      rintro e w1 ⟨A1, c1, rfl, hv1, hb1⟩
      have hbW1 : Below wr.heap.size wr w1 := hbW.trans (hb1.mono hbW.size)
      have hb1' : Below w.heap.size w w1 := hb.trans (hbW1.mono hb.size)
      have hown1 : OwnList 62 1 BytesCell w1 w.heap.size u4 ((l.take k).map (encL 41)) := hown.keep BytesCell.stable (Same.of_below hbW1 fun _ _ h => h)
      have hlt1 := hown.lt
      generalize hL1 : (encL 41 ⟨lk, lf, lt, ln, ls, V.mk vk vn vt va⟩).length = L1 at hv1 ⊢
      have hy : BytesCell w1 (fun b => w.heap.size ≤ b ∧ u4.ownBlock ≠ some b) [.slice A1 L1 c1] (encL 41 ⟨lk, lf, lt, ln, ls, V.mk vk vn vt va⟩) :=
        ⟨_, rfl, (Bytes.of_own_new hv1).imp fun b hb2 _ => ⟨by have := hb.size; have := hbW.size; omega, fun e => by have := (hlt1 b e).2; have := hbW.size; omega⟩⟩
      clear hlt1 hL1
      obtain ⟨vss1, ho, ha1⟩ := hown1
      have hol : ((l.take k).map (encL 41)).length ≤ 5 := by rw [List.length_map, List.length_take]; omega
      go_wp2_with (at_builtin; refine app_row _ rfl (.tmp 23) (.tmp 25) rfl (ho.alloc _) rfl (Reads.new (D := Any) _ [.slice A1 L1 c1] 1 1 _ trivial rfl) rfl (BytesCell.stable.one hy) (by omega) (by have := hb1'.size; simp; omega) ?_; intro v2 w2 hown2 hg2 hat2)
      refine ⟨⟨k + 1, by omega, by go_num, by rw [HT.out]; exact OwnList.push BytesCell.stable ha1 hy hg2 hat2 hown2, (hb1'.alloc hb1'.size _).grown hg2 (by have := hb1'.size; simp; omega) (fun k hk => (ho.lt k hk).1)⟩, by simp [intOf]; omega⟩
    · obtain rfl : k = n := by omega
      have e : l.take k = l := List.take_of_length_le (by have := Hn.out; omega)
      rw [e] at hown
      obtain ⟨h1, h2, h3⟩ := Hni.out.pack
      obtain ⟨A1, c1, rfl, _⟩ := hown.form
      have hla := (hown.listAt BytesCell.stable (by omega)).imp BytesCell.stable (by omega) (D' := Any) fun _ _ _ => trivial
      have PK := Lib.hid (pack_any _ _ wr hla h1 h2 h3)
      clear h1 h2 h3 hla e
      generalize hL : (l.map (encL 41)).length = N at PK hown ⊢
      clear hL
      go_wp2_with (fail)
      refine PK.out.mono ?_
      rintro e w1 ⟨A2, c2, rfl, hv1, hb1⟩
      go_wp2
      go_ret2
      exact ⟨A2, c2, rfl, own_lower hb.size hv1, hb.trans (hb1.mono hb.size)⟩
end Go.Proofs.Yteojmmjanjilaaa
set_option linter.unusedVariables false
namespace Go.Proofs.Yteojmmjanjilaaa
open Go.RowKit Go.Mem Go.Val Go.Chunk

def WyCells (d : Nat) (w : World) (D : Nat → Prop) (cs : List Value) (y : Wy) : Prop :=
  ∃ A c vs, cs = [.int .i64 y.from_, .int .i64 y.to_, .slice A y.letters.length c] ∧ (Fits64 y.from_ ∧ Fits64 y.to_) ∧ (y.letters.length ≤ 4194304 ∧ y.letters.length ≤ c ∧ c ≤ maxLen) ∧ Reads w D 9 A y.letters.length vs.flatten ∧ All2 (LCells d w D) vs y.letters
theorem WyCells.stable (d : Nat) : Stable 3 (WyCells d) where
  keep := fun ⟨A, c, vs, e, h1, h2, hr, ha⟩ hk => ⟨A, c, vs, e, h1, h2, hr.keep hk, ha.imp fun _ _ h => (LCells.stable d).keep h hk⟩
  imp := fun ⟨A, c, vs, e, h1, h2, hr, ha⟩ hk => ⟨A, c, vs, e, h1, h2, hr.imp (by omega) hk, ha.imp fun _ _ h => (LCells.stable d).imp h hk⟩
  len := fun ⟨A, c, vs, e, _⟩ => by simp [e]
  one := fun ⟨A, c, vs, e, _⟩ u hu => by subst e; simp at hu; rcases hu with rfl | rfl | rfl <;> rfl
def SnCells (d : Nat) (w : World) (D : Nat → Prop) (cs : List Value) (s : Snp) : Prop :=
  ∃ A1 c1 vs1 A2 c2 vs2, cs = [.int .i64 s.time, .slice A1 s.parcels.length c1, .slice A2 s.ways.length c2] ∧ Fits64 s.time ∧ (s.parcels.length ≤ 4194304 ∧ s.parcels.length ≤ c1 ∧ c1 ≤ maxLen) ∧ (s.ways.length ≤ 4194304 ∧ s.ways.length ≤ c2 ∧ c2 ≤ maxLen) ∧
    Reads w D 8 A1 s.parcels.length vs1.flatten ∧ All2 (PcCells d w D) vs1 s.parcels ∧ Reads w D 3 A2 s.ways.length vs2.flatten ∧ All2 (WyCells d w D) vs2 s.ways
theorem SnCells.stable (d : Nat) : Stable 3 (SnCells d) where
  keep := fun ⟨A1, c1, vs1, A2, c2, vs2, e, h0, h1, h2, hr1, ha1, hr2, ha2⟩ hk => ⟨A1, c1, vs1, A2, c2, vs2, e, h0, h1, h2, hr1.keep hk, ha1.imp fun _ _ h => (PcCells.stable d).keep h hk, hr2.keep hk, ha2.imp fun _ _ h => (WyCells.stable d).keep h hk⟩
  imp := fun ⟨A1, c1, vs1, A2, c2, vs2, e, h0, h1, h2, hr1, ha1, hr2, ha2⟩ hk => ⟨A1, c1, vs1, A2, c2, vs2, e, h0, h1, h2, hr1.imp (by omega) hk, ha1.imp fun _ _ h => (PcCells.stable d).imp h hk, hr2.imp (by omega) hk, ha2.imp fun _ _ h => (WyCells.stable d).imp h hk⟩
  len := fun ⟨A1, c1, vs1, A2, c2, vs2, e, _⟩ => by simp [e]
  one := fun ⟨A1, c1, vs1, A2, c2, vs2, e, _⟩ u hu => by subst e; simp at hu; rcases hu with rfl | rfl | rfl <;> rfl
theorem SnCells.out {d : Nat} {w : World} {D : Nat → Prop} {cs : List Value} {s : Snp} (h : SnCells d w D cs s) : ∃ A1 c1 A2 c2, cs = [.int .i64 s.time, .slice A1 s.parcels.length c1, .slice A2 s.ways.length c2] := by
  obtain ⟨A1, c1, vs1, A2, c2, vs2, e, _⟩ := h
  exact ⟨A1, c1, A2, c2, e⟩
theorem WyCells.out {d : Nat} {w : World} {D : Nat → Prop} {cs : List Value} {y : Wy} (h : WyCells d w D cs y) : ∃ A c, cs = [.int .i64 y.from_, .int .i64 y.to_, .slice A y.letters.length c] := by
  obtain ⟨A, c, vs, e, _⟩ := h
  exact ⟨A, c, e⟩
theorem PcCells.shape {d : Nat} {w : World} {D : Nat → Prop} {cs : List Value} {p : Pc} (h : PcCells d w D cs p) : ∃ A1 c1 A2 c2 A3 c3 A4 c4 A5 c5, cs = [.int .i64 p.ref, .string p.saved.actor, .slice A1 p.saved.state.length c1, .slice A2 p.saved.inputs.length c2, .slice A3 p.box.length c3, .int .i64 p.ticks, .slice A4 p.watches.length c4, .slice A5 p.links.length c5] := by
  obtain ⟨sv, A3, c3, vs3, A4, c4, A5, c5, rfl, _, _, ⟨A1, c1, vs1, A2, c2, vs2, rfl, _⟩, _⟩ := h
  exact ⟨A1, c1, A2, c2, A3, c3, A4, c4, A5, c5, rfl⟩

/-- a way that is right -/
def NiceW (y : Wy) : Prop := (1 ≤ y.from_ ∧ y.from_ ≤ 8) ∧ (1 ≤ y.to_ ∧ y.to_ ≤ 8) ∧ y.from_ ≠ y.to_ ∧ NiceLs y.letters
/-- a snapshot that is right -/
structure NiceSn (s : Snp) : Prop where
  time : 0 ≤ s.time ∧ s.time ≤ 1000
  np : s.parcels.length ≤ 5
  nw : s.ways.length ≤ 5
  ps : ∀ p ∈ s.parcels, NiceP p
  ws : ∀ y ∈ s.ways, NiceW y
  po : ∀ (i : Nat) (p q : Pc), s.parcels[i]? = some p → s.parcels[i + 1]? = some q → p.ref < q.ref
  wo : ∀ (i : Nat) (x y : Wy), s.ways[i]? = some x → s.ways[i + 1]? = some y → x.from_ = y.from_ ∧ x.to_ < y.to_
theorem wayE_len (y : Wy) (h : NiceW y) : (wayE 41 y).length ≤ 70000 := by
  have := h.2.2.2.pack.2.1
  simp [wayE]
  omega
theorem partsE_len (s : Snp) (h : NiceSn s) : ∀ x ∈ partsE 41 s, x.length ≤ 1000000 := by
  intro x hx
  rcases List.mem_append.1 hx with hx | hx
  · obtain ⟨p, hp, rfl⟩ := List.mem_map.1 hx
    exact (h.ps p hp).1.2.2.2.2
  · obtain ⟨y, hy, rfl⟩ := List.mem_map.1 hx
    have := wayE_len y (h.ws y hy)
    omega
end Go.Proofs.Yteojmmjanjilaaa
