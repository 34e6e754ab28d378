/- What parcelOf makes of raw ones; its contract. (Printed by mailpo.py.) -/
import Derived.Test.YteojmmjanjilaaaMailOf
import Derived.Test.YteojmmjanjilaaaMailPc
import Derived.Test.YteojmmjanjilaaaMemRows
set_option linter.unusedVariables false
namespace Go.Val
open Go.RowKit Go.Mem
def parStep (l : List Raw) (i : Nat) (p : Pc) : Pc := match l[i]? with
  | none => p
  | some r =>
    if restN r.kind 6 = 0 then (if p.saved.state.length < 6 then ⟨p.ref, ⟨p.saved.actor, p.saved.state ++ [valF ((l.drop i).take 6)], p.saved.inputs⟩, p.box, p.ticks, p.watches, p.links⟩ else p)
    else if restN r.kind 6 = 1 then ⟨p.ref, ⟨p.saved.actor, p.saved.state, p.saved.inputs ++ [⟨2, valF ((l.drop i).take 6)⟩, ⟨3, zeroV⟩]⟩, p.box, p.ticks, p.watches, p.links⟩
    else if restN r.kind 6 = 2 then ⟨p.ref, p.saved, p.box ++ [letF ((l.drop i).take 6)], p.ticks, p.watches, p.links⟩
    else if restN r.kind 6 = 3 then ⟨p.ref, p.saved, p.box, restN r.a 100, p.watches, p.links⟩
    else if restN r.kind 6 = 4 then ⟨p.ref, p.saved, p.box, p.ticks, p.watches ++ [1 + restN r.a 5000], p.links⟩
    else ⟨p.ref, p.saved, p.box, p.ticks, p.watches, p.links ++ [1 + restN r.a 5000]⟩
def parU (l : List Raw) (n : Int) : Nat → Pc
  | 0 => ⟨n, ⟨⟨#[65]⟩, [], []⟩, [], -1, [], []⟩
  | k + 1 => parStep l k (parU l n k)
/-- the parcel of raw ones -/
def parF (l : List Raw) (n : Int) : Pc := parU l n (min 8 l.length)
def PLen (p : Pc) (k : Nat) : Prop := p.saved.state.length ≤ 2 * k ∧ p.saved.inputs.length ≤ 2 * k ∧ p.box.length ≤ 2 * k ∧ p.watches.length ≤ 2 * k ∧ p.links.length ≤ 2 * k ∧ Fits64 p.ticks ∧ p.saved.actor = ⟨#[65]⟩
theorem parU_len (l : List Raw) (n : Int) : ∀ k, PLen (parU l n k) k ∧ (parU l n k).ref = n
  | 0 => ⟨⟨by simp [parU], by simp [parU], by simp [parU], by simp [parU], by simp [parU], ⟨by simp [parU], by simp [parU]⟩, rfl⟩, rfl⟩
  | k + 1 => by
    obtain ⟨⟨h1, h2, h3, h4, h5, h6, h7⟩, h8⟩ := parU_len l n k
    have hr := fun r : Raw => rest_fits r.a 100 (by omega) (by omega)
    unfold parU parStep
    generalize parU l n k = p at h1 h2 h3 h4 h5 h6 h7 h8
    split
    · exact ⟨⟨by omega, by omega, by omega, by omega, by omega, h6, h7⟩, h8⟩
    · split
      · split
        · exact ⟨⟨by simp; omega, by simp; omega, by simp; omega, by simp; omega, by simp; omega, h6, h7⟩, h8⟩
        · exact ⟨⟨by omega, by omega, by omega, by omega, by omega, h6, h7⟩, h8⟩
      · split
        · exact ⟨⟨by simp; omega, by simp; omega, by simp; omega, by simp; omega, by simp; omega, h6, h7⟩, h8⟩
        · split
          · exact ⟨⟨by simp; omega, by simp; omega, by simp; omega, by simp; omega, by simp; omega, h6, h7⟩, h8⟩
          · split
            · exact ⟨⟨by simp; omega, by simp; omega, by simp; omega, by simp; omega, by simp; omega, hr _, h7⟩, h8⟩
            · split
              · exact ⟨⟨by simp; omega, by simp; omega, by simp; omega, by simp; omega, by simp; omega, h6, h7⟩, h8⟩
              · exact ⟨⟨by simp; omega, by simp; omega, by simp; omega, by simp; omega, by simp; omega, h6, h7⟩, h8⟩
end Go.Val
namespace Go.Proofs.Yteojmmjanjilaaa
open Go.RowKit Go.Mem Go.Val

def PoPost (w : World) (x : Pc) (e : Ending) (w' : World) : Prop := ∃ cs, e = .returned (.agg cs.toArray) ∧ PcCells 41 w' (fun b => w.heap.size ≤ b) cs x ∧ Below w.heap.size w w'
/-- the parts of a parcel in the making -/
def PoRel (w : World) (n : Int) (p : Pc) (wr : World) : Prop :=
  ∃ v1 v2 v3 v4 v5 vs1 vs2 vs3, Blk wr (w.heap.size + 1) 48 [.int .i64 n, .string ⟨#[65]⟩, v1, v2, v3, .int .i64 p.ticks, v4, v5] ∧ Blk wr w.heap.size 48 [.int .i64 0, .string ⟨#[]⟩, .slice none 0 0, .slice none 0 0, .slice none 0 0, .int .i64 0, .slice none 0 0, .slice none 0 0] ∧ RowsAt wr (w.heap.size + 2) [⟨53, 4, v1, p.saved.state.length, vs1.flatten⟩, ⟨83, 5, v2, p.saved.inputs.length, vs2.flatten⟩, ⟨55, 9, v3, p.box.length, vs3.flatten⟩, ⟨3, 1, v4, p.watches.length, nums p.watches⟩, ⟨3, 1, v5, p.links.length, nums p.links⟩] ∧ All2 (VCells 41 wr (OffRows (w.heap.size + 2) [⟨53, 4, v1, p.saved.state.length, vs1.flatten⟩, ⟨83, 5, v2, p.saved.inputs.length, vs2.flatten⟩, ⟨55, 9, v3, p.box.length, vs3.flatten⟩, ⟨3, 1, v4, p.watches.length, nums p.watches⟩, ⟨3, 1, v5, p.links.length, nums p.links⟩])) vs1 p.saved.state ∧ All2 (InCells 41 wr (OffRows (w.heap.size + 2) [⟨53, 4, v1, p.saved.state.length, vs1.flatten⟩, ⟨83, 5, v2, p.saved.inputs.length, vs2.flatten⟩, ⟨55, 9, v3, p.box.length, vs3.flatten⟩, ⟨3, 1, v4, p.watches.length, nums p.watches⟩, ⟨3, 1, v5, p.links.length, nums p.links⟩])) vs2 p.saved.inputs ∧ All2 (LCells 41 wr (OffRows (w.heap.size + 2) [⟨53, 4, v1, p.saved.state.length, vs1.flatten⟩, ⟨83, 5, v2, p.saved.inputs.length, vs2.flatten⟩, ⟨55, 9, v3, p.box.length, vs3.flatten⟩, ⟨3, 1, v4, p.watches.length, nums p.watches⟩, ⟨3, 1, v5, p.links.length, nums p.links⟩])) vs3 p.box ∧ Below w.heap.size w wr
section
variable {w wr w1 w2 : World} {n : Int} {p : Pc} {o : Obj} {v' : Value} {n' : Nat} {xs' : List Value}
/-- nothing of it has changed -/
theorem PoRel.below (h : PoRel w n p wr) (hb : Below wr.heap.size wr w1) : PoRel w n p w1 := by
  obtain ⟨v1, v2, v3, v4, v5, vs1, vs2, vs3, hB, hZ, hR, a1, a2, a3, hbel⟩ := h
  exact ⟨v1, v2, v3, v4, v5, vs1, vs2, vs3, hB.below hb hB.lt, hZ.below hb hZ.lt, hR.keep (Same.any hb), a1.imp fun _ _ h => h.keep (Same.any hb), a2.imp fun _ _ h => (InCells.stable 41).keep h (Same.any hb), a3.imp fun _ _ h => (LCells.stable 41).keep h (Same.any hb), hbel.trans (hb.mono hbel.size)⟩
theorem PoRel.size (h : PoRel w n p wr) : w.heap.size + 2 ≤ wr.heap.size := by
  obtain ⟨v1, v2, v3, v4, v5, vs1, vs2, vs3, hB, _⟩ := h
  have := hB.lt
  omega

theorem po_state {v1 v2 v3 v4 v5 : Value} {vs1 vs2 vs3 : List (List Value)} {ys : List V} (hB : Blk w1 (w.heap.size + 1) 48 [.int .i64 n, .string ⟨#[65]⟩, v1, v2, v3, .int .i64 p.ticks, v4, v5]) (hZ : Blk w1 w.heap.size 48 [.int .i64 0, .string ⟨#[]⟩, .slice none 0 0, .slice none 0 0, .slice none 0 0, .int .i64 0, .slice none 0 0, .slice none 0 0]) (hR : RowsAt w1 (w.heap.size + 2) [⟨53, 4, v1, p.saved.state.length, vs1.flatten⟩, ⟨83, 5, v2, p.saved.inputs.length, vs2.flatten⟩, ⟨55, 9, v3, p.box.length, vs3.flatten⟩, ⟨3, 1, v4, p.watches.length, nums p.watches⟩, ⟨3, 1, v5, p.links.length, nums p.links⟩]) (a1 : All2 (VCells 41 w1 (OffRows (w.heap.size + 2) [⟨53, 4, v1, p.saved.state.length, vs1.flatten⟩, ⟨83, 5, v2, p.saved.inputs.length, vs2.flatten⟩, ⟨55, 9, v3, p.box.length, vs3.flatten⟩, ⟨3, 1, v4, p.watches.length, nums p.watches⟩, ⟨3, 1, v5, p.links.length, nums p.links⟩])) vs1 p.saved.state) (a2 : All2 (InCells 41 w1 (OffRows (w.heap.size + 2) [⟨53, 4, v1, p.saved.state.length, vs1.flatten⟩, ⟨83, 5, v2, p.saved.inputs.length, vs2.flatten⟩, ⟨55, 9, v3, p.box.length, vs3.flatten⟩, ⟨3, 1, v4, p.watches.length, nums p.watches⟩, ⟨3, 1, v5, p.links.length, nums p.links⟩])) vs2 p.saved.inputs) (a3 : All2 (LCells 41 w1 (OffRows (w.heap.size + 2) [⟨53, 4, v1, p.saved.state.length, vs1.flatten⟩, ⟨83, 5, v2, p.saved.inputs.length, vs2.flatten⟩, ⟨55, 9, v3, p.box.length, vs3.flatten⟩, ⟨3, 1, v4, p.watches.length, nums p.watches⟩, ⟨3, 1, v5, p.links.length, nums p.links⟩])) vs3 p.box) (hbel : Below w.heap.size w w1)
    {uss : List (List Value)} (hy : All2 (VCells 41 w1 (OffRows (w.heap.size + 2) [⟨53, 4, v1, p.saved.state.length, vs1.flatten⟩, ⟨83, 5, v2, p.saved.inputs.length, vs2.flatten⟩, ⟨55, 9, v3, p.box.length, vs3.flatten⟩, ⟨3, 1, v4, p.watches.length, nums p.watches⟩, ⟨3, 1, v5, p.links.length, nums p.links⟩])) uss ys) (hg : (w1.alloc o).grownBy w2 v1.ownBlock) (hat : v'.ownBlock = v1.ownBlock ∨ v'.ownBlock = some (w1.alloc o).heap.size) (hown : w2.ownsRow (w.heap.size + 2) 53 4 v' (p.saved.state.length + ys.length) (vs1.flatten ++ uss.flatten)) :
    PoRel w n ⟨p.ref, ⟨p.saved.actor, p.saved.state ++ ys, p.saved.inputs⟩, p.box, p.ticks, p.watches, p.links⟩ (w2.setCell ⟨w.heap.size + 1, 2, none⟩ v') := by
  have hk : Same (fun b => w.heap.size + 2 ≤ b) w2 (w2.setCell ⟨w.heap.size + 1, 2, none⟩ v') := grown_put (by omega) _ _
  have hk' : ∀ {rs : List RowD}, Same (OffRows (w.heap.size + 2) rs) w2 (w2.setCell ⟨w.heap.size + 1, 2, none⟩ v') := fun b hb hl => hk b hb.1 hl
  have hown' : w2.ownsRow (w.heap.size + 2) 53 4 v' (p.saved.state ++ ys).length ((vs1 ++ uss).flatten) := by simpa [nums] using hown
  have hlt := (hR.1 0 _ rfl).lt
  simp only at hlt
  have b5 : ∀ b, b < w.heap.size + 2 → b < w1.heap.size → w2.heap[b]? = w1.heap[b]? := fun b hb hl => (hg.block b (by simp; omega) (fun e => by have := (hlt b e.symm).1; omega)).trans (Below.heap_alloc w1 o b hl)
  have hbel2 : Below w.heap.size w w2 := ⟨hg.os.trans hbel.os, hg.tape.trans hbel.tape, hg.output.trans hbel.output, Nat.le_trans hbel.size (Nat.le_trans (by simp) hg.size), fun k hk => (b5 k (by omega) (Nat.lt_of_lt_of_le hk hbel.size)).trans (hbel.block k hk)⟩
  have hB2 : Blk w2 (w.heap.size + 1) 48 [.int .i64 n, .string ⟨#[65]⟩, v1, v2, v3, .int .i64 p.ticks, v4, v5] := (b5 _ (by omega) hB.lt).trans hB
  have hZ2 : Blk w2 w.heap.size 48 [.int .i64 0, .string ⟨#[]⟩, .slice none 0 0, .slice none 0 0, .slice none 0 0, .int .i64 0, .slice none 0 0, .slice none 0 0] := (b5 _ (by omega) hZ.lt).trans hZ
  exact ⟨v', v2, v3, v4, v5, vs1 ++ uss, vs2, vs3, hB2.put 2 v', hZ2.far (by simp) _, (hR.set (i := 0) rfl hg hat hown').keep hk, (All2.app (a1.imp fun _ _ h => (VCells.stable 41).keep (hR.off (VCells.stable 41) (i := 0) rfl hg hat h) hk') (hy.imp fun _ _ h => (VCells.stable 41).keep (hR.off (VCells.stable 41) (i := 0) rfl hg hat h) hk')), (a2.imp fun _ _ h => (InCells.stable 41).keep (hR.off (InCells.stable 41) (i := 0) rfl hg hat h) hk'), (a3.imp fun _ _ h => (LCells.stable 41).keep (hR.off (LCells.stable 41) (i := 0) rfl hg hat h) hk'), hbel2.setCell (by simp) _⟩

theorem po_inputs {v1 v2 v3 v4 v5 : Value} {vs1 vs2 vs3 : List (List Value)} {ys : List In} (hB : Blk w1 (w.heap.size + 1) 48 [.int .i64 n, .string ⟨#[65]⟩, v1, v2, v3, .int .i64 p.ticks, v4, v5]) (hZ : Blk w1 w.heap.size 48 [.int .i64 0, .string ⟨#[]⟩, .slice none 0 0, .slice none 0 0, .slice none 0 0, .int .i64 0, .slice none 0 0, .slice none 0 0]) (hR : RowsAt w1 (w.heap.size + 2) [⟨53, 4, v1, p.saved.state.length, vs1.flatten⟩, ⟨83, 5, v2, p.saved.inputs.length, vs2.flatten⟩, ⟨55, 9, v3, p.box.length, vs3.flatten⟩, ⟨3, 1, v4, p.watches.length, nums p.watches⟩, ⟨3, 1, v5, p.links.length, nums p.links⟩]) (a1 : All2 (VCells 41 w1 (OffRows (w.heap.size + 2) [⟨53, 4, v1, p.saved.state.length, vs1.flatten⟩, ⟨83, 5, v2, p.saved.inputs.length, vs2.flatten⟩, ⟨55, 9, v3, p.box.length, vs3.flatten⟩, ⟨3, 1, v4, p.watches.length, nums p.watches⟩, ⟨3, 1, v5, p.links.length, nums p.links⟩])) vs1 p.saved.state) (a2 : All2 (InCells 41 w1 (OffRows (w.heap.size + 2) [⟨53, 4, v1, p.saved.state.length, vs1.flatten⟩, ⟨83, 5, v2, p.saved.inputs.length, vs2.flatten⟩, ⟨55, 9, v3, p.box.length, vs3.flatten⟩, ⟨3, 1, v4, p.watches.length, nums p.watches⟩, ⟨3, 1, v5, p.links.length, nums p.links⟩])) vs2 p.saved.inputs) (a3 : All2 (LCells 41 w1 (OffRows (w.heap.size + 2) [⟨53, 4, v1, p.saved.state.length, vs1.flatten⟩, ⟨83, 5, v2, p.saved.inputs.length, vs2.flatten⟩, ⟨55, 9, v3, p.box.length, vs3.flatten⟩, ⟨3, 1, v4, p.watches.length, nums p.watches⟩, ⟨3, 1, v5, p.links.length, nums p.links⟩])) vs3 p.box) (hbel : Below w.heap.size w w1)
    {uss : List (List Value)} (hy : All2 (InCells 41 w1 (OffRows (w.heap.size + 2) [⟨53, 4, v1, p.saved.state.length, vs1.flatten⟩, ⟨83, 5, v2, p.saved.inputs.length, vs2.flatten⟩, ⟨55, 9, v3, p.box.length, vs3.flatten⟩, ⟨3, 1, v4, p.watches.length, nums p.watches⟩, ⟨3, 1, v5, p.links.length, nums p.links⟩])) uss ys) (hg : (w1.alloc o).grownBy w2 v2.ownBlock) (hat : v'.ownBlock = v2.ownBlock ∨ v'.ownBlock = some (w1.alloc o).heap.size) (hown : w2.ownsRow (w.heap.size + 2) 83 5 v' (p.saved.inputs.length + ys.length) (vs2.flatten ++ uss.flatten)) :
    PoRel w n ⟨p.ref, ⟨p.saved.actor, p.saved.state, p.saved.inputs ++ ys⟩, p.box, p.ticks, p.watches, p.links⟩ (w2.setCell ⟨w.heap.size + 1, 3, none⟩ v') := by
  have hk : Same (fun b => w.heap.size + 2 ≤ b) w2 (w2.setCell ⟨w.heap.size + 1, 3, none⟩ v') := grown_put (by omega) _ _
  have hk' : ∀ {rs : List RowD}, Same (OffRows (w.heap.size + 2) rs) w2 (w2.setCell ⟨w.heap.size + 1, 3, none⟩ v') := fun b hb hl => hk b hb.1 hl
  have hown' : w2.ownsRow (w.heap.size + 2) 83 5 v' (p.saved.inputs ++ ys).length ((vs2 ++ uss).flatten) := by simpa [nums] using hown
  have hlt := (hR.1 1 _ rfl).lt
  simp only at hlt
  have b5 : ∀ b, b < w.heap.size + 2 → b < w1.heap.size → w2.heap[b]? = w1.heap[b]? := fun b hb hl => (hg.block b (by simp; omega) (fun e => by have := (hlt b e.symm).1; omega)).trans (Below.heap_alloc w1 o b hl)
  have hbel2 : Below w.heap.size w w2 := ⟨hg.os.trans hbel.os, hg.tape.trans hbel.tape, hg.output.trans hbel.output, Nat.le_trans hbel.size (Nat.le_trans (by simp) hg.size), fun k hk => (b5 k (by omega) (Nat.lt_of_lt_of_le hk hbel.size)).trans (hbel.block k hk)⟩
  have hB2 : Blk w2 (w.heap.size + 1) 48 [.int .i64 n, .string ⟨#[65]⟩, v1, v2, v3, .int .i64 p.ticks, v4, v5] := (b5 _ (by omega) hB.lt).trans hB
  have hZ2 : Blk w2 w.heap.size 48 [.int .i64 0, .string ⟨#[]⟩, .slice none 0 0, .slice none 0 0, .slice none 0 0, .int .i64 0, .slice none 0 0, .slice none 0 0] := (b5 _ (by omega) hZ.lt).trans hZ
  exact ⟨v1, v', v3, v4, v5, vs1, vs2 ++ uss, vs3, hB2.put 3 v', hZ2.far (by simp) _, (hR.set (i := 1) rfl hg hat hown').keep hk, (a1.imp fun _ _ h => (VCells.stable 41).keep (hR.off (VCells.stable 41) (i := 1) rfl hg hat h) hk'), (All2.app (a2.imp fun _ _ h => (InCells.stable 41).keep (hR.off (InCells.stable 41) (i := 1) rfl hg hat h) hk') (hy.imp fun _ _ h => (InCells.stable 41).keep (hR.off (InCells.stable 41) (i := 1) rfl hg hat h) hk')), (a3.imp fun _ _ h => (LCells.stable 41).keep (hR.off (LCells.stable 41) (i := 1) rfl hg hat h) hk'), hbel2.setCell (by simp) _⟩

theorem po_box {v1 v2 v3 v4 v5 : Value} {vs1 vs2 vs3 : List (List Value)} {ys : List L} (hB : Blk w1 (w.heap.size + 1) 48 [.int .i64 n, .string ⟨#[65]⟩, v1, v2, v3, .int .i64 p.ticks, v4, v5]) (hZ : Blk w1 w.heap.size 48 [.int .i64 0, .string ⟨#[]⟩, .slice none 0 0, .slice none 0 0, .slice none 0 0, .int .i64 0, .slice none 0 0, .slice none 0 0]) (hR : RowsAt w1 (w.heap.size + 2) [⟨53, 4, v1, p.saved.state.length, vs1.flatten⟩, ⟨83, 5, v2, p.saved.inputs.length, vs2.flatten⟩, ⟨55, 9, v3, p.box.length, vs3.flatten⟩, ⟨3, 1, v4, p.watches.length, nums p.watches⟩, ⟨3, 1, v5, p.links.length, nums p.links⟩]) (a1 : All2 (VCells 41 w1 (OffRows (w.heap.size + 2) [⟨53, 4, v1, p.saved.state.length, vs1.flatten⟩, ⟨83, 5, v2, p.saved.inputs.length, vs2.flatten⟩, ⟨55, 9, v3, p.box.length, vs3.flatten⟩, ⟨3, 1, v4, p.watches.length, nums p.watches⟩, ⟨3, 1, v5, p.links.length, nums p.links⟩])) vs1 p.saved.state) (a2 : All2 (InCells 41 w1 (OffRows (w.heap.size + 2) [⟨53, 4, v1, p.saved.state.length, vs1.flatten⟩, ⟨83, 5, v2, p.saved.inputs.length, vs2.flatten⟩, ⟨55, 9, v3, p.box.length, vs3.flatten⟩, ⟨3, 1, v4, p.watches.length, nums p.watches⟩, ⟨3, 1, v5, p.links.length, nums p.links⟩])) vs2 p.saved.inputs) (a3 : All2 (LCells 41 w1 (OffRows (w.heap.size + 2) [⟨53, 4, v1, p.saved.state.length, vs1.flatten⟩, ⟨83, 5, v2, p.saved.inputs.length, vs2.flatten⟩, ⟨55, 9, v3, p.box.length, vs3.flatten⟩, ⟨3, 1, v4, p.watches.length, nums p.watches⟩, ⟨3, 1, v5, p.links.length, nums p.links⟩])) vs3 p.box) (hbel : Below w.heap.size w w1)
    {uss : List (List Value)} (hy : All2 (LCells 41 w1 (OffRows (w.heap.size + 2) [⟨53, 4, v1, p.saved.state.length, vs1.flatten⟩, ⟨83, 5, v2, p.saved.inputs.length, vs2.flatten⟩, ⟨55, 9, v3, p.box.length, vs3.flatten⟩, ⟨3, 1, v4, p.watches.length, nums p.watches⟩, ⟨3, 1, v5, p.links.length, nums p.links⟩])) uss ys) (hg : (w1.alloc o).grownBy w2 v3.ownBlock) (hat : v'.ownBlock = v3.ownBlock ∨ v'.ownBlock = some (w1.alloc o).heap.size) (hown : w2.ownsRow (w.heap.size + 2) 55 9 v' (p.box.length + ys.length) (vs3.flatten ++ uss.flatten)) :
    PoRel w n ⟨p.ref, p.saved, p.box ++ ys, p.ticks, p.watches, p.links⟩ (w2.setCell ⟨w.heap.size + 1, 4, none⟩ v') := by
  have hk : Same (fun b => w.heap.size + 2 ≤ b) w2 (w2.setCell ⟨w.heap.size + 1, 4, none⟩ v') := grown_put (by omega) _ _
  have hk' : ∀ {rs : List RowD}, Same (OffRows (w.heap.size + 2) rs) w2 (w2.setCell ⟨w.heap.size + 1, 4, none⟩ v') := fun b hb hl => hk b hb.1 hl
  have hown' : w2.ownsRow (w.heap.size + 2) 55 9 v' (p.box ++ ys).length ((vs3 ++ uss).flatten) := by simpa [nums] using hown
  have hlt := (hR.1 2 _ rfl).lt
  simp only at hlt
  have b5 : ∀ b, b < w.heap.size + 2 → b < w1.heap.size → w2.heap[b]? = w1.heap[b]? := fun b hb hl => (hg.block b (by simp; omega) (fun e => by have := (hlt b e.symm).1; omega)).trans (Below.heap_alloc w1 o b hl)
  have hbel2 : Below w.heap.size w w2 := ⟨hg.os.trans hbel.os, hg.tape.trans hbel.tape, hg.output.trans hbel.output, Nat.le_trans hbel.size (Nat.le_trans (by simp) hg.size), fun k hk => (b5 k (by omega) (Nat.lt_of_lt_of_le hk hbel.size)).trans (hbel.block k hk)⟩
  have hB2 : Blk w2 (w.heap.size + 1) 48 [.int .i64 n, .string ⟨#[65]⟩, v1, v2, v3, .int .i64 p.ticks, v4, v5] := (b5 _ (by omega) hB.lt).trans hB
  have hZ2 : Blk w2 w.heap.size 48 [.int .i64 0, .string ⟨#[]⟩, .slice none 0 0, .slice none 0 0, .slice none 0 0, .int .i64 0, .slice none 0 0, .slice none 0 0] := (b5 _ (by omega) hZ.lt).trans hZ
  exact ⟨v1, v2, v', v4, v5, vs1, vs2, vs3 ++ uss, hB2.put 4 v', hZ2.far (by simp) _, (hR.set (i := 2) rfl hg hat hown').keep hk, (a1.imp fun _ _ h => (VCells.stable 41).keep (hR.off (VCells.stable 41) (i := 2) rfl hg hat h) hk'), (a2.imp fun _ _ h => (InCells.stable 41).keep (hR.off (InCells.stable 41) (i := 2) rfl hg hat h) hk'), (All2.app (a3.imp fun _ _ h => (LCells.stable 41).keep (hR.off (LCells.stable 41) (i := 2) rfl hg hat h) hk') (hy.imp fun _ _ h => (LCells.stable 41).keep (hR.off (LCells.stable 41) (i := 2) rfl hg hat h) hk')), hbel2.setCell (by simp) _⟩

theorem po_watches {v1 v2 v3 v4 v5 : Value} {vs1 vs2 vs3 : List (List Value)} {ys : List Int} (hB : Blk w1 (w.heap.size + 1) 48 [.int .i64 n, .string ⟨#[65]⟩, v1, v2, v3, .int .i64 p.ticks, v4, v5]) (hZ : Blk w1 w.heap.size 48 [.int .i64 0, .string ⟨#[]⟩, .slice none 0 0, .slice none 0 0, .slice none 0 0, .int .i64 0, .slice none 0 0, .slice none 0 0]) (hR : RowsAt w1 (w.heap.size + 2) [⟨53, 4, v1, p.saved.state.length, vs1.flatten⟩, ⟨83, 5, v2, p.saved.inputs.length, vs2.flatten⟩, ⟨55, 9, v3, p.box.length, vs3.flatten⟩, ⟨3, 1, v4, p.watches.length, nums p.watches⟩, ⟨3, 1, v5, p.links.length, nums p.links⟩]) (a1 : All2 (VCells 41 w1 (OffRows (w.heap.size + 2) [⟨53, 4, v1, p.saved.state.length, vs1.flatten⟩, ⟨83, 5, v2, p.saved.inputs.length, vs2.flatten⟩, ⟨55, 9, v3, p.box.length, vs3.flatten⟩, ⟨3, 1, v4, p.watches.length, nums p.watches⟩, ⟨3, 1, v5, p.links.length, nums p.links⟩])) vs1 p.saved.state) (a2 : All2 (InCells 41 w1 (OffRows (w.heap.size + 2) [⟨53, 4, v1, p.saved.state.length, vs1.flatten⟩, ⟨83, 5, v2, p.saved.inputs.length, vs2.flatten⟩, ⟨55, 9, v3, p.box.length, vs3.flatten⟩, ⟨3, 1, v4, p.watches.length, nums p.watches⟩, ⟨3, 1, v5, p.links.length, nums p.links⟩])) vs2 p.saved.inputs) (a3 : All2 (LCells 41 w1 (OffRows (w.heap.size + 2) [⟨53, 4, v1, p.saved.state.length, vs1.flatten⟩, ⟨83, 5, v2, p.saved.inputs.length, vs2.flatten⟩, ⟨55, 9, v3, p.box.length, vs3.flatten⟩, ⟨3, 1, v4, p.watches.length, nums p.watches⟩, ⟨3, 1, v5, p.links.length, nums p.links⟩])) vs3 p.box) (hbel : Below w.heap.size w w1)
     (hg : (w1.alloc o).grownBy w2 v4.ownBlock) (hat : v'.ownBlock = v4.ownBlock ∨ v'.ownBlock = some (w1.alloc o).heap.size) (hown : w2.ownsRow (w.heap.size + 2) 3 1 v' (p.watches.length + ys.length) (nums p.watches ++ nums ys)) :
    PoRel w n ⟨p.ref, p.saved, p.box, p.ticks, p.watches ++ ys, p.links⟩ (w2.setCell ⟨w.heap.size + 1, 6, none⟩ v') := by
  have hk : Same (fun b => w.heap.size + 2 ≤ b) w2 (w2.setCell ⟨w.heap.size + 1, 6, none⟩ v') := grown_put (by omega) _ _
  have hk' : ∀ {rs : List RowD}, Same (OffRows (w.heap.size + 2) rs) w2 (w2.setCell ⟨w.heap.size + 1, 6, none⟩ v') := fun b hb hl => hk b hb.1 hl
  have hown' : w2.ownsRow (w.heap.size + 2) 3 1 v' (p.watches ++ ys).length (nums (p.watches ++ ys)) := by simpa [nums] using hown
  have hlt := (hR.1 3 _ rfl).lt
  simp only at hlt
  have b5 : ∀ b, b < w.heap.size + 2 → b < w1.heap.size → w2.heap[b]? = w1.heap[b]? := fun b hb hl => (hg.block b (by simp; omega) (fun e => by have := (hlt b e.symm).1; omega)).trans (Below.heap_alloc w1 o b hl)
  have hbel2 : Below w.heap.size w w2 := ⟨hg.os.trans hbel.os, hg.tape.trans hbel.tape, hg.output.trans hbel.output, Nat.le_trans hbel.size (Nat.le_trans (by simp) hg.size), fun k hk => (b5 k (by omega) (Nat.lt_of_lt_of_le hk hbel.size)).trans (hbel.block k hk)⟩
  have hB2 : Blk w2 (w.heap.size + 1) 48 [.int .i64 n, .string ⟨#[65]⟩, v1, v2, v3, .int .i64 p.ticks, v4, v5] := (b5 _ (by omega) hB.lt).trans hB
  have hZ2 : Blk w2 w.heap.size 48 [.int .i64 0, .string ⟨#[]⟩, .slice none 0 0, .slice none 0 0, .slice none 0 0, .int .i64 0, .slice none 0 0, .slice none 0 0] := (b5 _ (by omega) hZ.lt).trans hZ
  exact ⟨v1, v2, v3, v', v5, vs1, vs2, vs3, hB2.put 6 v', hZ2.far (by simp) _, (hR.set (i := 3) rfl hg hat hown').keep hk, (a1.imp fun _ _ h => (VCells.stable 41).keep (hR.off (VCells.stable 41) (i := 3) rfl hg hat h) hk'), (a2.imp fun _ _ h => (InCells.stable 41).keep (hR.off (InCells.stable 41) (i := 3) rfl hg hat h) hk'), (a3.imp fun _ _ h => (LCells.stable 41).keep (hR.off (LCells.stable 41) (i := 3) rfl hg hat h) hk'), hbel2.setCell (by simp) _⟩

theorem po_links {v1 v2 v3 v4 v5 : Value} {vs1 vs2 vs3 : List (List Value)} {ys : List Int} (hB : Blk w1 (w.heap.size + 1) 48 [.int .i64 n, .string ⟨#[65]⟩, v1, v2, v3, .int .i64 p.ticks, v4, v5]) (hZ : Blk w1 w.heap.size 48 [.int .i64 0, .string ⟨#[]⟩, .slice none 0 0, .slice none 0 0, .slice none 0 0, .int .i64 0, .slice none 0 0, .slice none 0 0]) (hR : RowsAt w1 (w.heap.size + 2) [⟨53, 4, v1, p.saved.state.length, vs1.flatten⟩, ⟨83, 5, v2, p.saved.inputs.length, vs2.flatten⟩, ⟨55, 9, v3, p.box.length, vs3.flatten⟩, ⟨3, 1, v4, p.watches.length, nums p.watches⟩, ⟨3, 1, v5, p.links.length, nums p.links⟩]) (a1 : All2 (VCells 41 w1 (OffRows (w.heap.size + 2) [⟨53, 4, v1, p.saved.state.length, vs1.flatten⟩, ⟨83, 5, v2, p.saved.inputs.length, vs2.flatten⟩, ⟨55, 9, v3, p.box.length, vs3.flatten⟩, ⟨3, 1, v4, p.watches.length, nums p.watches⟩, ⟨3, 1, v5, p.links.length, nums p.links⟩])) vs1 p.saved.state) (a2 : All2 (InCells 41 w1 (OffRows (w.heap.size + 2) [⟨53, 4, v1, p.saved.state.length, vs1.flatten⟩, ⟨83, 5, v2, p.saved.inputs.length, vs2.flatten⟩, ⟨55, 9, v3, p.box.length, vs3.flatten⟩, ⟨3, 1, v4, p.watches.length, nums p.watches⟩, ⟨3, 1, v5, p.links.length, nums p.links⟩])) vs2 p.saved.inputs) (a3 : All2 (LCells 41 w1 (OffRows (w.heap.size + 2) [⟨53, 4, v1, p.saved.state.length, vs1.flatten⟩, ⟨83, 5, v2, p.saved.inputs.length, vs2.flatten⟩, ⟨55, 9, v3, p.box.length, vs3.flatten⟩, ⟨3, 1, v4, p.watches.length, nums p.watches⟩, ⟨3, 1, v5, p.links.length, nums p.links⟩])) vs3 p.box) (hbel : Below w.heap.size w w1)
     (hg : (w1.alloc o).grownBy w2 v5.ownBlock) (hat : v'.ownBlock = v5.ownBlock ∨ v'.ownBlock = some (w1.alloc o).heap.size) (hown : w2.ownsRow (w.heap.size + 2) 3 1 v' (p.links.length + ys.length) (nums p.links ++ nums ys)) :
    PoRel w n ⟨p.ref, p.saved, p.box, p.ticks, p.watches, p.links ++ ys⟩ (w2.setCell ⟨w.heap.size + 1, 7, none⟩ v') := by
  have hk : Same (fun b => w.heap.size + 2 ≤ b) w2 (w2.setCell ⟨w.heap.size + 1, 7, none⟩ v') := grown_put (by omega) _ _
  have hk' : ∀ {rs : List RowD}, Same (OffRows (w.heap.size + 2) rs) w2 (w2.setCell ⟨w.heap.size + 1, 7, none⟩ v') := fun b hb hl => hk b hb.1 hl
  have hown' : w2.ownsRow (w.heap.size + 2) 3 1 v' (p.links ++ ys).length (nums (p.links ++ ys)) := by simpa [nums] using hown
  have hlt := (hR.1 4 _ rfl).lt
  simp only at hlt
  have b5 : ∀ b, b < w.heap.size + 2 → b < w1.heap.size → w2.heap[b]? = w1.heap[b]? := fun b hb hl => (hg.block b (by simp; omega) (fun e => by have := (hlt b e.symm).1; omega)).trans (Below.heap_alloc w1 o b hl)
  have hbel2 : Below w.heap.size w w2 := ⟨hg.os.trans hbel.os, hg.tape.trans hbel.tape, hg.output.trans hbel.output, Nat.le_trans hbel.size (Nat.le_trans (by simp) hg.size), fun k hk => (b5 k (by omega) (Nat.lt_of_lt_of_le hk hbel.size)).trans (hbel.block k hk)⟩
  have hB2 : Blk w2 (w.heap.size + 1) 48 [.int .i64 n, .string ⟨#[65]⟩, v1, v2, v3, .int .i64 p.ticks, v4, v5] := (b5 _ (by omega) hB.lt).trans hB
  have hZ2 : Blk w2 w.heap.size 48 [.int .i64 0, .string ⟨#[]⟩, .slice none 0 0, .slice none 0 0, .slice none 0 0, .int .i64 0, .slice none 0 0, .slice none 0 0] := (b5 _ (by omega) hZ.lt).trans hZ
  exact ⟨v1, v2, v3, v4, v', vs1, vs2, vs3, hB2.put 7 v', hZ2.far (by simp) _, (hR.set (i := 4) rfl hg hat hown').keep hk, (a1.imp fun _ _ h => (VCells.stable 41).keep (hR.off (VCells.stable 41) (i := 4) rfl hg hat h) hk'), (a2.imp fun _ _ h => (InCells.stable 41).keep (hR.off (InCells.stable 41) (i := 4) rfl hg hat h) hk'), (a3.imp fun _ _ h => (LCells.stable 41).keep (hR.off (LCells.stable 41) (i := 4) rfl hg hat h) hk'), hbel2.setCell (by simp) _⟩
end
end Go.Proofs.Yteojmmjanjilaaa
