/- Contract of valueOf: the value that raw ones say. -/
import Derived.Test.YtgcpclbkjplipaaValNext
import Derived.Laws.EntriesVeiled
set_option linter.unusedVariables false
namespace Go.Proofs.Ytgcpclbkjplipaa
open Go.RowKit Go.Mem Go.Val

set_option maxRecDepth 100000 in
set_option maxHeartbeats 600000 in
/-- valueOf: the value that raw ones say -/
theorem valueOf_any (l : List Raw) (A : Option Addr) (n c : Nat) (rss : List (List Value)) (w : World) (hn : n = l.length) (hnc : n ≤ c) (hcm : c ≤ maxLen) (hr : Reads w Any 4 A n rss.flatten) (ha : All2 (RawCells w Any) rss l) :
    Calls Try.prog 18 #[.slice A n c] w fun e w' => ∃ A' c', e = .returned (vagg (valF l) A' c') ∧ VCells 21 w' (fun b => w.heap.size ≤ b) (vcells (valF l) A' c') (valF l) ∧ Below w.heap.size w w' := by
  have hmf : ∀ (fn : Fn) (first cap : Array Value) (w : World), (Instr.makeFunc fn first cap).run Try.prog w = .ok (.func fn first cap) w := fun _ _ _ _ => rfl
  have Hn := Lib.hid hn
  clear hn
  go_enter Try.func18, Try.ntmps18
  go_wp2_with (fail)
  obtain ⟨W, hW⟩ : ∃ W, W = (((w.alloc (.cells [.slice A n c].toArray 32)).alloc (.cells [.int .i64 0, .int .i64 0, .string ⟨#[]⟩, .slice none 0 0].toArray 35)).alloc (.cells [.int .i64 0].toArray 3)).alloc (.cells [.func (.func 52) #[] #[.pointer (some ⟨w.heap.size + 1 + 1, 0, none⟩), .pointer (some ⟨w.heap.size, 0, none⟩), .pointer (some ⟨w.heap.size + 1 + 1 + 1, 0, none⟩)]].toArray 107) := ⟨_, rfl⟩
  obtain ⟨b1, b2, b3, b4, hbel, hsz⟩ := blks4 _ _ _ _ _ _ _ _ _ W hW
  rw [← hW]
  have hlt : ∀ b, Any b → b < w.heap.size → b ≠ w.heap.size + 1 + 1 := fun b _ h => by omega
  clear hW
  refine (next_any l A n c (w.heap.size + 1 + 1) w.heap.size (w.heap.size + 1 + 1 + 1) Hn.out hnc hcm 20 1 (by omega) (by omega) 0 W rss (by omega) b3 b1 b4 ((hr.imp (by omega) hlt).keep (Same.any hbel)) (ha.imp fun _ _ h => h)).mono ?_
  rintro e w1 ⟨⟨A4, c4, rfl, hv4⟩, cat1, hg1⟩
  generalize hvv : (nextF l 20 0).1 = vv at hv4 ⊢
  have Hvv : Hid (valF l = vv) := hvv
  clear hvv cat1
  obtain ⟨vk, vn, vt, va⟩ := vv
  simp only [vagg, vcells, V.kind, V.num, V.text, V.args] at hv4 ⊢
  have cres := b2.grown hg1 (by simp)
  have r0 := cres.cell 0
  have r1 := cres.cell 1
  have r2 := cres.cell 2
  have r3 := cres.cell 3
  have s0 := cres.frozen 0
  have s1 := cres.frozen 1
  have s2 := cres.frozen 2
  have s3 := cres.frozen 3
  simp only [List.getElem?_cons_succ, List.getElem?_cons_zero] at r0 r1 r2 r3
  go_wp2_with (fail)
  have hB := (((cres.put 0 (.int .i64 vk)).put 1 (.int .i64 vn)).put 2 (.string vt)).put 3 (.slice A4 va.length c4)
  have hS : Same (fun b => W.heap.size ≤ b) w1 ((((w1.setCell ⟨w.heap.size + 1, 0, none⟩ (.int .i64 vk)).setCell ⟨w.heap.size + 1, 1, none⟩ (.int .i64 vn)).setCell ⟨w.heap.size + 1, 2, none⟩ (.string vt)).setCell ⟨w.heap.size + 1, 3, none⟩ (.slice A4 va.length c4)) := by
    intro b hb hl
    have hne : b ≠ w.heap.size + 1 := by omega
    rw [Below.heap_setCell _ _ _ _ hne, Below.heap_setCell _ _ _ _ hne, Below.heap_setCell _ _ _ _ hne, Below.heap_setCell _ _ _ _ hne]
  have hw1 : Below w.heap.size w w1 := hbel.trans ⟨hg1.os, hg1.tape, hg1.output, hg1.size, fun k hk => hg1.block k (by omega) (by simp; omega)⟩
  have hG := (((hw1.setCell (p := ⟨w.heap.size + 1, 0, none⟩) (Nat.le_succ _) (.int .i64 vk)).setCell (p := ⟨w.heap.size + 1, 1, none⟩) (Nat.le_succ _) (.int .i64 vn)).setCell (p := ⟨w.heap.size + 1, 2, none⟩) (Nat.le_succ _) (.string vt)).setCell (p := ⟨w.heap.size + 1, 3, none⟩) (Nat.le_succ _) (.slice A4 va.length c4)
  have hV := hv4.keep hS
  generalize (((w1.setCell ⟨w.heap.size + 1, 0, none⟩ (.int .i64 vk)).setCell ⟨w.heap.size + 1, 1, none⟩ (.int .i64 vn)).setCell ⟨w.heap.size + 1, 2, none⟩ (.string vt)).setCell ⟨w.heap.size + 1, 3, none⟩ (.slice A4 va.length c4) = W' at hB hG hV ⊢
  refine ret_blk rfl rfl hB Try.underlying35 (by kernel_rfl) rfl ?_
  rw [Hvv.out]
  exact ⟨A4, c4, rfl, hV.imp fun b hb _ => by omega, hG⟩
end Go.Proofs.Ytgcpclbkjplipaa
