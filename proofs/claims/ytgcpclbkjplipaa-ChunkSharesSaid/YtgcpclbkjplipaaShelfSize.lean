/- Contract of (*Shelf).Size. -/
import Derived.Test.YtgcpclbkjplipaaShelfPut
import Derived.Deep.LoopGhost
set_option linter.unusedVariables false
namespace Go.Proofs.Ytgcpclbkjplipaa
open Go.RowKit Go.Mem Go.Chunk Go.Maps
/-- the length of a piece's value -/
def lenS : Value → Nat
  | .agg a => match a.toList with
    | Value.string s :: _ => s.size
    | _ => 0
  | _ => 0
theorem lenS_pv (p : Bs × Nat) : lenS (pv p) = p.1.length := by simp [lenS, pv, ByteArray.size]
theorem sizeB_lens (ps : List (Nat × (Bs × Nat))) : ((ps.map fun p => (p.1, pv p.2)).map fun q => lenS q.2).sum = sizeB ps := by
  unfold sizeB
  rw [List.map_map]
  congr 1
theorem sizeB_le (ps : List (Nat × (Bs × Nat))) (h : ∀ p ∈ ps, p.2.1.length ≤ 65536) : sizeB ps ≤ 65536 * ps.length := by
  induction ps with
  | nil => simp [sizeB]
  | cons p r ih =>
    have h1 := ih fun q hq => h q (by simp [hq])
    have h2 := h p (by simp)
    simp only [sizeB, List.map_cons, List.sum_cons, List.length_cons] at h1 ⊢
    omega
set_option maxRecDepth 100000 in
set_option maxHeartbeats 2000000 in
theorem size_any (w : World) (S P N : Nat) (s : Shf) (hs : ShelfAt w S P N s) (hl : s.ps.length ≤ 500) (h32 : ∀ p ∈ s.ps, p.2.1.length ≤ 65536) :
    Calls Try.prog 23 #[.pointer (some ⟨S, 0, none⟩)] w fun e w' => e = .returned (.tuple #[.int .i64 (s.ps.length : Nat), .int .i64 (sizeB s.ps : Nat)]) ∧ Below w.heap.size w w' := by
  have c0 := hs.blk.cell 0
  simp only [List.getElem?_cons_zero] at c0
  have lS := hs.blk.lt
  have HS := Lib.hid hs
  have H32 := Lib.hid h32
  obtain ⟨TOT, hT⟩ : ∃ T, T = sizeB s.ps := ⟨_, rfl⟩
  have hTle : TOT ≤ 65536 * 500 := by rw [hT]; exact Nat.le_trans (sizeB_le _ H32.out) (Nat.mul_le_mul_left _ hl)
  rw [← hT]
  obtain ⟨k, hk⟩ : ∃ k, k = s.ps.length := ⟨_, rfl⟩
  rw [← hk] at hl ⊢
  have hlen := fun ty W hW => (HS.out.ps.same (w' := W) hW).len (P := Try.prog) Try.underlying115 ty
  rw [List.length_map, ← hk] at hlen
  have HLen := Lib.hid hlen
  clear hs h32 hk hlen
  go_enter Try.func23, Try.ntmps23
  go_wp2_with (refine wpList_mrange _ rfl (.tmp 10) _ rfl Try.underlying115 rfl (by exact HS.out.ps) ?_; intro w2 hit hb hsz)
  go_frame
  obtain ⟨R, hR⟩ : ∃ R, R = w.heap.size := ⟨_, rfl⟩
  rw [← hR] at hit ⊢
  obtain ⟨L, hL⟩ : ∃ L, L = s.ps.map fun p => (p.1, pv p.2) := ⟨_, rfl⟩
  rw [← hL] at hit
  have hsum : (L.map fun q => lenS q.2).sum = TOT := by rw [hL, hT, sizeB_lens]
  have HI := Lib.hid hit
  have HSum := Lib.hid hsum
  have HL := Lib.hid hL
  have HT := Lib.hid hT
  have HB := Lib.hid hb
  have HRr := Lib.hid hR
  have hPR : P ≠ R := by have := HS.out.lt.2.1; omega
  clear hit hsum hL hT hb hR hsz
  go_loopg [4] L.length (fun g v wr => ∃ left acc, v = .int .i64 ((acc : Nat) : Int) ∧ Hid (left.length = g ∧ IterOf encN okN wr P R L left ∧ (∀ p ∈ left, p ∈ L) ∧ acc + (left.map fun q => lenS q.2).sum = TOT ∧ Below w.heap.size w wr))
  case atStart => exact ⟨L, 0, rfl, rfl, HI.out, fun _ h => h, by rw [Nat.zero_add]; exact HSum.out, HB.out⟩
  case round =>
    obtain ⟨left, acc, rfl, HJ⟩ := hrel
    have hacc : acc ≤ TOT := by have := HJ.out.2.2.2.1; omega
    have hsw : ShelfAt wr S P N s := HS.out.below HJ.out.2.2.2.2
    have cS := hsw.blk.cell 0
    simp only [List.getElem?_cons_zero] at cS
    have lSw := hsw.blk.lt
    have hln := fun ty => HLen.out ty wr (HJ.out.2.2.2.2.block P HS.out.lt.2.1)
    clear hsw
    go_wp2_with (refine wpList_mnext _ rfl (.tmp 11) rfl rfl HJ.out.2.1 hPR (fun h0 => ?_) ?_; rotate_left; intro x v l1 l2 w6 h0 hit6 hg6 hs6 hent; obtain ⟨p9, hp9, hv⟩ : ∃ p ∈ s.ps, v = pv p.2 := (by have h1 := HJ.out.2.2.1 (x, v) (by rw [h0]; simp); rw [HL.out] at h1; obtain ⟨p, hp, e⟩ := List.mem_map.1 h1; injection e with _ e; exact ⟨p, hp, e.symm⟩); obtain ⟨n9, b9, h9⟩ := p9; have hb9 := H32.out _ hp9; subst hv; have hac : acc + b9.length ≤ TOT := (by have h1 := HJ.out.2.2.2.1; rw [h0] at h1; simp only [List.map_append, List.map_cons, List.sum_append, List.sum_cons, lenS_pv] at h1; omega); have hb6 : Below w.heap.size w w6 := (HJ.out.2.2.2.2.grown hg6 HJ.out.2.2.2.2.size (fun q hq => by injection hq with hq; have := HRr.out; omega)); have H6 := Lib.hid hb6; have H0 := Lib.hid h0; have HIT := Lib.hid hit6; simp only [pv] at hent hac hb9; clear h0 hp9 hb6 hit6 hg6 hs6)
    · go_roundg (l1 ++ l2).length
      case measure =>
        have e1 := HJ.out.1
        rw [H0.out] at e1
        simp at e1 ⊢
        omega
      case rel =>
        refine ⟨l1 ++ l2, acc + b9.length, by simp, rfl, HIT.out.same (Below.heap_alloc w6 _ P HIT.out.lt.1) (Below.heap_alloc w6 _ R HIT.out.lt.2), fun p hp => HJ.out.2.2.1 p (by rw [H0.out]; rcases List.mem_append.1 hp with hp | hp; exact List.mem_append_left _ hp; exact List.mem_append_right _ (List.mem_cons_of_mem _ hp)), ?_, H6.out.alloc H6.out.size _⟩
        have e1 := HJ.out.2.2.2.1
        rw [H0.out] at e1
        simp only [List.map_append, List.map_cons, List.sum_append, List.sum_cons, lenS_pv] at e1 ⊢
        omega
    · have hacc2 : acc = TOT := by
        have := HJ.out.2.2.2.1
        rw [h0] at this
        simpa using this
      subst hacc2
      go_ret2
      exact ⟨rfl, HJ.out.2.2.2.2⟩
end Go.Proofs.Ytgcpclbkjplipaa
