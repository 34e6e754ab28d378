/- Contract of (*reader).letter: it follows decL where that succeeds. (Printed by mailrd.py.) -/
import Derived.Test.YteojmmjanjilaaaMailSome
set_option linter.unusedVariables false
namespace Go.Val
open Go.RowKit Go.Mem
/-- a decoding D of bs has come to K at bs1, and can be ended; or the reader is bad -/
def Cur {β : Type} (D : List UInt8 → Option (β × List UInt8)) (bad : Bool) (bs : List UInt8) (K : List UInt8 → Option (β × List UInt8)) (bs1 : List UInt8) : Prop := (okS bad bs).bind D = (okS bad bs1).bind K ∧ (bad = false → (K bs1).isSome = true)
theorem Cur.step {α β : Type} {D : List UInt8 → Option (β × List UInt8)} {bad bad1 : Bool} {bs bs1 bs2 : List UInt8} {dec : List UInt8 → Option (α × List UInt8)} {k : α → List UInt8 → Option (β × List UInt8)} {x : α} (h : Cur D bad bs (seqD dec k) bs1) (h1 : (okS bad bs1).bind dec = okS bad1 (x, bs2)) : bad1 = bad ∧ Cur D bad bs (k x) bs2 := by
  obtain ⟨hb, hf⟩ := fine_step h1 h.2
  subst hb
  exact ⟨rfl, h.1.trans (seq_on k h1), hf⟩
theorem Cur.fin {β : Type} {D : List UInt8 → Option (β × List UInt8)} {bad : Bool} {bs bs1 : List UInt8} {x : β} (h : Cur D bad bs (retD x) bs1) : (okS bad bs).bind D = okS bad (x, bs1) := h.1.trans (ret_on x bad bs1)
theorem Cur.good {β : Type} {D : List UInt8 → Option (β × List UInt8)} {bs bs1 : List UInt8} {x : β} (h : Cur D false bs (retD x) bs1) : D bs = some (x, bs1) := by simpa [okS] using h.fin
def tailL (d : Nat) (k f t n : Int) (s : ByteArray) : List UInt8 → Option (L × List UInt8) := if k = 1 then seqD (decV d) fun v => retD ⟨k, f, t, n, s, v⟩ else retD ⟨k, f, t, n, s, zeroV⟩
theorem Cur.begin {β : Type} {D : List UInt8 → Option (β × List UInt8)} {bad : Bool} {bs : List UInt8} (hf : bad = false → (D bs).isSome = true) : Cur D bad bs D bs := ⟨rfl, hf⟩
theorem Cur.letter {bs : List UInt8} (hf : (decL 40 bs).isSome = true) : Cur (decL 40) false bs (seqD byteD fun k => seqD lenI fun f => seqD lenI fun t => seqD lenI fun n => seqD textD fun s => tailL 40 k f t n s) bs := ⟨rfl, fun _ => hf⟩
end Go.Val
namespace Go.Proofs.Yteojmmjanjilaaa
open Go.RowKit Go.Mem Go.Val

/-- behind the reading of the five fields -/
def LMid (w : World) (R : Nat) (T : TypeId) (bs : List UInt8) (s3 : Value) (wc : World) : Prop :=
  ∃ (g : Nat) (k : Int) (f t n : Nat) (s : ByteArray) (bs5 : List UInt8), s3 = .pointer (some ⟨g, 0, none⟩) ∧ w.heap.size < g ∧ Blk wc g 55 [.int .i64 k, .int .i64 f, .int .i64 t, .int .i64 n, .string s, .int .i64 0, .int .i64 0, .string ⟨#[]⟩, .slice none 0 0] ∧ Blk wc w.heap.size 55 [.int .i64 0, .int .i64 0, .int .i64 0, .int .i64 0, .string ⟨#[]⟩, .int .i64 0, .int .i64 0, .string ⟨#[]⟩, .slice none 0 0] ∧ (0 ≤ k ∧ k ≤ 255) ∧ f ≤ 9223372036854775807 ∧ t ≤ 9223372036854775807 ∧ n ≤ 9223372036854775807 ∧ s.size ≤ 4194304 ∧
    Rd wc R T [.int .i64 0] bs5 false ∧ w.grownBy wc (some R) ∧ bs5.length ≤ bs.length ∧ Cur (decL 40) false bs (tailL 40 k f t n s) bs5
theorem midL_new {w w5 : World} {R : Nat} {T : TypeId} {bs bs5 : List UInt8} {k : Int} {f t n : Nat} {s : ByteArray} (hk : 0 ≤ k ∧ k ≤ 255) (hf : f ≤ 9223372036854775807) (ht : t ≤ 9223372036854775807) (hn : n ≤ 9223372036854775807) (hs : s.size ≤ 4194304)
    (hz : Blk w5 w.heap.size 55 [.int .i64 0, .int .i64 0, .int .i64 0, .int .i64 0, .string ⟨#[]⟩, .int .i64 0, .int .i64 0, .string ⟨#[]⟩, .slice none 0 0]) (hrd : Rd w5 R T [.int .i64 0] bs5 false) (hG : w.grownBy w5 (some R)) (hle : bs5.length ≤ bs.length) (hc : Cur (decL 40) false bs (tailL 40 k f t n s) bs5) :
    LMid w R T bs (.pointer (some ⟨w5.heap.size, 0, none⟩)) (w5.alloc (.cells #[.int .i64 k, .int .i64 f, .int .i64 t, .int .i64 n, .string s, .int .i64 0, .int .i64 0, .string ⟨#[]⟩, .slice none 0 0] 55)) :=
  ⟨w5.heap.size, k, f, t, n, s, bs5, rfl, hz.lt, Blk.new w5 _ _, hz.alloc _, hk, hf, ht, hn, hs, hrd.alloc _, grownBy_alloc hG _, hle, hc⟩
theorem midL_set {w w5 : World} {R g : Nat} {T : TypeId} {bs bs5 : List UInt8} {k : Int} {f t n : Nat} {s : ByteArray} (hB : Blk w5 g 55 [.int .i64 0, .int .i64 0, .int .i64 0, .int .i64 0, .string ⟨#[]⟩, .int .i64 0, .int .i64 0, .string ⟨#[]⟩, .slice none 0 0]) (hg : w.heap.size < g) (hR : R < w.heap.size) (hk : 0 ≤ k ∧ k ≤ 255) (hf : f ≤ 9223372036854775807) (ht : t ≤ 9223372036854775807) (hn : n ≤ 9223372036854775807) (hs : s.size ≤ 4194304)
    (hz : Blk w5 w.heap.size 55 [.int .i64 0, .int .i64 0, .int .i64 0, .int .i64 0, .string ⟨#[]⟩, .int .i64 0, .int .i64 0, .string ⟨#[]⟩, .slice none 0 0]) (hrd : Rd w5 R T [.int .i64 0] bs5 false) (hG : w.grownBy w5 (some R)) (hle : bs5.length ≤ bs.length) (hc : Cur (decL 40) false bs (tailL 40 k f t n s) bs5) :
    LMid w R T bs (.pointer (some ⟨g, 0, none⟩)) (((((((((w5.setCell ⟨g, 0, none⟩ (.int .i64 k)).setCell ⟨g, 1, none⟩ (.int .i64 f)).setCell ⟨g, 2, none⟩ (.int .i64 t)).setCell ⟨g, 3, none⟩ (.int .i64 n)).setCell ⟨g, 4, none⟩ (.string s)).setCell ⟨g, 5, none⟩ (.int .i64 0)).setCell ⟨g, 6, none⟩ (.int .i64 0)).setCell ⟨g, 7, none⟩ (.string ⟨#[]⟩)).setCell ⟨g, 8, none⟩ (.slice none 0 0)) := by
  have e : setRow w5 g 0 [.int .i64 k, .int .i64 f, .int .i64 t, .int .i64 n, .string s, .int .i64 0, .int .i64 0, .string ⟨#[]⟩, .slice none 0 0] = (((((((((w5.setCell ⟨g, 0, none⟩ (.int .i64 k)).setCell ⟨g, 1, none⟩ (.int .i64 f)).setCell ⟨g, 2, none⟩ (.int .i64 t)).setCell ⟨g, 3, none⟩ (.int .i64 n)).setCell ⟨g, 4, none⟩ (.string s)).setCell ⟨g, 5, none⟩ (.int .i64 0)).setCell ⟨g, 6, none⟩ (.int .i64 0)).setCell ⟨g, 7, none⟩ (.string ⟨#[]⟩)).setCell ⟨g, 8, none⟩ (.slice none 0 0)) := rfl
  rw [← e]
  exact ⟨g, k, f, t, n, s, bs5, rfl, hg, setRow_blk hB _ rfl, hz.same (D := fun b => b ≠ g) (setRow_same (by simp) _ _ _) (by omega), hk, hf, ht, hn, hs, hrd.keep (setRow_same (by omega) _ _ _), setRow_grown (.inr (by omega)) _ _ _ hG, hle, hc⟩

set_option maxRecDepth 100000 in
set_option maxHeartbeats 4000000 in
theorem rletter_any (w : World) (R : Nat) (T : TypeId) (bs : List UInt8) (hlen : bs.length ≤ 4194304) (h : Rd w R T [.int .i64 0] bs false) (hf : (decL 40 bs).isSome = true) :
    Calls Try.prog 85 #[.pointer (some ⟨R, 0, none⟩)] w (RxPost (LCells 41) (decL 40) w R T bs) := by
  have l1 := h.lt
  have C0 := Cur.letter hf
  clear hf
  obtain ⟨W0, hW0⟩ : ∃ W0, W0 = w.alloc (.cells #[.int .i64 0, .int .i64 0, .int .i64 0, .int .i64 0, .string ⟨#[]⟩, .int .i64 0, .int .i64 0, .string ⟨#[]⟩, .slice none 0 0] 55) := ⟨_, rfl⟩
  have hrd0 : Rd W0 R T [.int .i64 0] bs false := by rw [hW0]; exact h.alloc _
  have hG0 : w.grownBy W0 (some R) := by rw [hW0]; exact grownBy_alloc (World.grownBy.refl w _) _
  have hB0 : Blk W0 w.heap.size 55 [.int .i64 0, .int .i64 0, .int .i64 0, .int .i64 0, .string ⟨#[]⟩, .int .i64 0, .int .i64 0, .string ⟨#[]⟩, .slice none 0 0] := by rw [hW0]; exact Blk.new w _ _
  have HW := Lib.hid hW0
  have lR := hrd0.lt
  have hzl := hB0.lt
  clear hW0 h
  go_enter Try.func85, Try.ntmps85
  go_upto_region 1 with (fail)
  rw [← HW.out]
  clear HW
  go_cut [3] (fun s3 wc => LMid w R T bs s3 wc)
  case first =>
      have zz : ∀ W : World, Blk (W.alloc (.cells #[.int .i64 0, .int .i64 0, .int .i64 0, .int .i64 0, .string ⟨#[]⟩, .int .i64 0, .int .i64 0, .string ⟨#[]⟩, .slice none 0 0] 55)) W.heap.size 55 [.int .i64 0, .int .i64 0, .int .i64 0, .int .i64 0, .string ⟨#[]⟩, .int .i64 0, .int .i64 0, .string ⟨#[]⟩, .slice none 0 0] := fun W => Blk.new W _ _
      have ZZ := Lib.hid zz
      clear zz
      refine wp_region_any (by kernel_rfl) ?_
      change wpAny _ _ _ _ _ _ _ (World.drew _)
      repeat (first | (refine wpAny_take (i := 0) (v := .pointer (some ⟨R, 0, none⟩)) rfl ?_ ?_ ?_ (fun _ _ _ h => h) (Or.inl ⟨by rfl, ?_⟩) ?_; (· decide +kernel); (· decide +kernel); (· decide +kernel); (· (intro w; go_simp))) | (refine wpAny_take (i := 1) (v := .pointer (some ⟨R, 0, none⟩)) rfl ?_ ?_ ?_ (fun _ _ _ h => h) (Or.inl ⟨by rfl, ?_⟩) ?_; (· decide +kernel); (· decide +kernel); (· decide +kernel); (· (intro w; go_simp))) | (refine wpAny_take (i := 2) (v := .pointer (some ⟨R, 0, none⟩)) rfl ?_ ?_ ?_ (fun _ _ _ h => h) (Or.inl ⟨by rfl, ?_⟩) ?_; (· decide +kernel); (· decide +kernel); (· decide +kernel); (· (intro w; go_simp))) | (refine wpAny_take (i := 4) (v := .pointer (some ⟨R, 0, none⟩)) rfl ?_ ?_ ?_ (fun _ _ _ h => h) (Or.inl ⟨by rfl, ?_⟩) ?_; (· decide +kernel); (· decide +kernel); (· decide +kernel); (· (intro w; go_simp))) | (refine wpAny_take (i := 5) (v := .pointer (some ⟨R, 0, none⟩)) rfl ?_ ?_ ?_ (fun _ _ _ h => h) (Or.inl ⟨by rfl, ?_⟩) ?_; (· decide +kernel); (· decide +kernel); (· decide +kernel); (· (intro w; go_simp))) | (refine wpAny_take (i := 6) (v := .pointer (some ⟨R, 0, none⟩)) rfl ?_ ?_ ?_ (fun _ _ _ h => h) (Or.inl ⟨by rfl, ?_⟩) ?_; (· decide +kernel); (· decide +kernel); (· decide +kernel); (· (intro w; go_simp))) | (refine wpAny_take (i := 8) (v := .pointer (some ⟨R, 0, none⟩)) rfl ?_ ?_ ?_ (fun _ _ _ h => h) (Or.inl ⟨by rfl, ?_⟩) ?_; (· decide +kernel); (· decide +kernel); (· decide +kernel); (· (intro w; go_simp))) | (refine wpAny_take (i := 9) (v := .pointer (some ⟨R, 0, none⟩)) rfl ?_ ?_ ?_ (fun _ _ _ h => h) (Or.inl ⟨by rfl, ?_⟩) ?_; (· decide +kernel); (· decide +kernel); (· decide +kernel); (· (intro w; go_simp))) | (refine wpAny_take (i := 10) (v := .pointer (some ⟨R, 0, none⟩)) rfl ?_ ?_ ?_ (fun _ _ _ h => h) (Or.inl ⟨by rfl, ?_⟩) ?_; (· decide +kernel); (· decide +kernel); (· decide +kernel); (· (intro w; go_simp))) | (refine wpAny_take (i := 12) (v := .pointer (some ⟨R, 0, none⟩)) rfl ?_ ?_ ?_ (fun _ _ _ h => h) (Or.inl ⟨by rfl, ?_⟩) ?_; (· decide +kernel); (· decide +kernel); (· decide +kernel); (· (intro w; go_simp))) | (refine wpAny_take (i := 13) (v := .pointer (some ⟨R, 0, none⟩)) rfl ?_ ?_ ?_ (fun _ _ _ h => h) (Or.inl ⟨by rfl, ?_⟩) ?_; (· decide +kernel); (· decide +kernel); (· decide +kernel); (· (intro w; go_simp))) | (refine wpAny_take (i := 14) (v := .pointer (some ⟨R, 0, none⟩)) rfl ?_ ?_ ?_ (fun _ _ _ h => h) (Or.inl ⟨by rfl, ?_⟩) ?_; (· decide +kernel); (· decide +kernel); (· decide +kernel); (· (intro w; go_simp))) | (refine wpAny_take (i := 16) (v := .pointer (some ⟨R, 0, none⟩)) rfl ?_ ?_ ?_ (fun _ _ _ h => h) (Or.inl ⟨by rfl, ?_⟩) ?_; (· decide +kernel); (· decide +kernel); (· decide +kernel); (· (intro w; go_simp))) | (refine wpAny_take (i := 17) (v := .pointer (some ⟨R, 0, none⟩)) rfl ?_ ?_ ?_ (fun _ _ _ h => h) (Or.inl ⟨by rfl, ?_⟩) ?_; (· decide +kernel); (· decide +kernel); (· decide +kernel); (· (intro w; go_simp))) | (refine wpAny_take (i := 18) (v := .pointer (some ⟨R, 0, none⟩)) rfl ?_ ?_ ?_ (fun _ _ _ h => h) (Or.inl ⟨by rfl, ?_⟩) ?_; (· decide +kernel); (· decide +kernel); (· decide +kernel); (· (intro w; go_simp))))
      refine wpAny_ready (rs := [3, 21]) (by decide +kernel) (by simp) ?_
      refine AllReady.cons rfl (fun K hK => ?_) (AllReady.cons rfl (fun K hK => ?_) AllReady.nil)
      · go_simp
        refine (byte_any _ R T [.int .i64 0] bs false (by exact hrd0)).mono ?_
        rintro e w1 ⟨v1, x1, bs1, bad1, rfl, ⟨rfl, hx1, hx2⟩, hrd1, hg1, hl1, hh1⟩
        obtain ⟨hb1, C1⟩ := C0.step hh1.out
        subst hb1
        clear hh1
        have K1 : W0.grownBy w1 (some R) := grownBy_trans (by exact (grownBy_drew (World.grownBy.refl W0 _))) hg1
        have q1 := K1.size
        have r1 := hrd1.lt
        try dsimp only
        refine hK _ _ ?_
        clear hK K
        repeat (first | (refine wpAny_take (i := 0) (v := .pointer (some ⟨R, 0, none⟩)) rfl ?_ ?_ ?_ (fun _ _ _ h => h) (Or.inl ⟨by rfl, ?_⟩) ?_; (· decide +kernel); (· decide +kernel); (· decide +kernel); (· (intro w; go_simp))) | (refine wpAny_take (i := 1) (v := .pointer (some ⟨R, 0, none⟩)) rfl ?_ ?_ ?_ (fun _ _ _ h => h) (Or.inl ⟨by rfl, ?_⟩) ?_; (· decide +kernel); (· decide +kernel); (· decide +kernel); (· (intro w; go_simp))) | (refine wpAny_take (i := 2) (v := .pointer (some ⟨R, 0, none⟩)) rfl ?_ ?_ ?_ (fun _ _ _ h => h) (Or.inl ⟨by rfl, ?_⟩) ?_; (· decide +kernel); (· decide +kernel); (· decide +kernel); (· (intro w; go_simp))) | (refine wpAny_take (i := 4) (v := .pointer (some ⟨R, 0, none⟩)) rfl ?_ ?_ ?_ (fun _ _ _ h => h) (Or.inl ⟨by rfl, ?_⟩) ?_; (· decide +kernel); (· decide +kernel); (· decide +kernel); (· (intro w; go_simp))) | (refine wpAny_take (i := 5) (v := .pointer (some ⟨R, 0, none⟩)) rfl ?_ ?_ ?_ (fun _ _ _ h => h) (Or.inl ⟨by rfl, ?_⟩) ?_; (· decide +kernel); (· decide +kernel); (· decide +kernel); (· (intro w; go_simp))) | (refine wpAny_take (i := 6) (v := .pointer (some ⟨R, 0, none⟩)) rfl ?_ ?_ ?_ (fun _ _ _ h => h) (Or.inl ⟨by rfl, ?_⟩) ?_; (· decide +kernel); (· decide +kernel); (· decide +kernel); (· (intro w; go_simp))) | (refine wpAny_take (i := 8) (v := .pointer (some ⟨R, 0, none⟩)) rfl ?_ ?_ ?_ (fun _ _ _ h => h) (Or.inl ⟨by rfl, ?_⟩) ?_; (· decide +kernel); (· decide +kernel); (· decide +kernel); (· (intro w; go_simp))) | (refine wpAny_take (i := 9) (v := .pointer (some ⟨R, 0, none⟩)) rfl ?_ ?_ ?_ (fun _ _ _ h => h) (Or.inl ⟨by rfl, ?_⟩) ?_; (· decide +kernel); (· decide +kernel); (· decide +kernel); (· (intro w; go_simp))) | (refine wpAny_take (i := 10) (v := .pointer (some ⟨R, 0, none⟩)) rfl ?_ ?_ ?_ (fun _ _ _ h => h) (Or.inl ⟨by rfl, ?_⟩) ?_; (· decide +kernel); (· decide +kernel); (· decide +kernel); (· (intro w; go_simp))) | (refine wpAny_take (i := 12) (v := .pointer (some ⟨R, 0, none⟩)) rfl ?_ ?_ ?_ (fun _ _ _ h => h) (Or.inl ⟨by rfl, ?_⟩) ?_; (· decide +kernel); (· decide +kernel); (· decide +kernel); (· (intro w; go_simp))) | (refine wpAny_take (i := 13) (v := .pointer (some ⟨R, 0, none⟩)) rfl ?_ ?_ ?_ (fun _ _ _ h => h) (Or.inl ⟨by rfl, ?_⟩) ?_; (· decide +kernel); (· decide +kernel); (· decide +kernel); (· (intro w; go_simp))) | (refine wpAny_take (i := 14) (v := .pointer (some ⟨R, 0, none⟩)) rfl ?_ ?_ ?_ (fun _ _ _ h => h) (Or.inl ⟨by rfl, ?_⟩) ?_; (· decide +kernel); (· decide +kernel); (· decide +kernel); (· (intro w; go_simp))) | (refine wpAny_take (i := 16) (v := .pointer (some ⟨R, 0, none⟩)) rfl ?_ ?_ ?_ (fun _ _ _ h => h) (Or.inl ⟨by rfl, ?_⟩) ?_; (· decide +kernel); (· decide +kernel); (· decide +kernel); (· (intro w; go_simp))) | (refine wpAny_take (i := 17) (v := .pointer (some ⟨R, 0, none⟩)) rfl ?_ ?_ ?_ (fun _ _ _ h => h) (Or.inl ⟨by rfl, ?_⟩) ?_; (· decide +kernel); (· decide +kernel); (· decide +kernel); (· (intro w; go_simp))) | (refine wpAny_take (i := 18) (v := .pointer (some ⟨R, 0, none⟩)) rfl ?_ ?_ ?_ (fun _ _ _ h => h) (Or.inl ⟨by rfl, ?_⟩) ?_; (· decide +kernel); (· decide +kernel); (· decide +kernel); (· (intro w; go_simp))))
        refine wpAny_ready (rs := [7, 21]) (by decide +kernel) (by simp) ?_
        refine AllReady.cons rfl (fun K hK => ?_) (AllReady.cons rfl (fun K hK => ?_) AllReady.nil)
        · go_simp
          refine (rnat_any _ R T [.int .i64 0] bs1 false (by exact hrd1)).mono ?_
          rintro e w2 ⟨v2, x2, bs2, bad2, rfl, ⟨rfl, hn2⟩, hrd2, hg2, hl2, hh2⟩
          obtain ⟨hb2, C2⟩ := C1.step (lenI_on hh2.out)
          subst hb2
          clear hh2
          have K2 : W0.grownBy w2 (some R) := grownBy_trans (by exact K1) hg2
          have q2 := K2.size
          have r2 := hrd2.lt
          try dsimp only
          refine hK _ _ ?_
          clear hK K
          repeat (first | (refine wpAny_take (i := 0) (v := .pointer (some ⟨R, 0, none⟩)) rfl ?_ ?_ ?_ (fun _ _ _ h => h) (Or.inl ⟨by rfl, ?_⟩) ?_; (· decide +kernel); (· decide +kernel); (· decide +kernel); (· (intro w; go_simp))) | (refine wpAny_take (i := 1) (v := .pointer (some ⟨R, 0, none⟩)) rfl ?_ ?_ ?_ (fun _ _ _ h => h) (Or.inl ⟨by rfl, ?_⟩) ?_; (· decide +kernel); (· decide +kernel); (· decide +kernel); (· (intro w; go_simp))) | (refine wpAny_take (i := 2) (v := .pointer (some ⟨R, 0, none⟩)) rfl ?_ ?_ ?_ (fun _ _ _ h => h) (Or.inl ⟨by rfl, ?_⟩) ?_; (· decide +kernel); (· decide +kernel); (· decide +kernel); (· (intro w; go_simp))) | (refine wpAny_take (i := 4) (v := .pointer (some ⟨R, 0, none⟩)) rfl ?_ ?_ ?_ (fun _ _ _ h => h) (Or.inl ⟨by rfl, ?_⟩) ?_; (· decide +kernel); (· decide +kernel); (· decide +kernel); (· (intro w; go_simp))) | (refine wpAny_take (i := 5) (v := .pointer (some ⟨R, 0, none⟩)) rfl ?_ ?_ ?_ (fun _ _ _ h => h) (Or.inl ⟨by rfl, ?_⟩) ?_; (· decide +kernel); (· decide +kernel); (· decide +kernel); (· (intro w; go_simp))) | (refine wpAny_take (i := 6) (v := .pointer (some ⟨R, 0, none⟩)) rfl ?_ ?_ ?_ (fun _ _ _ h => h) (Or.inl ⟨by rfl, ?_⟩) ?_; (· decide +kernel); (· decide +kernel); (· decide +kernel); (· (intro w; go_simp))) | (refine wpAny_take (i := 8) (v := .pointer (some ⟨R, 0, none⟩)) rfl ?_ ?_ ?_ (fun _ _ _ h => h) (Or.inl ⟨by rfl, ?_⟩) ?_; (· decide +kernel); (· decide +kernel); (· decide +kernel); (· (intro w; go_simp))) | (refine wpAny_take (i := 9) (v := .pointer (some ⟨R, 0, none⟩)) rfl ?_ ?_ ?_ (fun _ _ _ h => h) (Or.inl ⟨by rfl, ?_⟩) ?_; (· decide +kernel); (· decide +kernel); (· decide +kernel); (· (intro w; go_simp))) | (refine wpAny_take (i := 10) (v := .pointer (some ⟨R, 0, none⟩)) rfl ?_ ?_ ?_ (fun _ _ _ h => h) (Or.inl ⟨by rfl, ?_⟩) ?_; (· decide +kernel); (· decide +kernel); (· decide +kernel); (· (intro w; go_simp))) | (refine wpAny_take (i := 12) (v := .pointer (some ⟨R, 0, none⟩)) rfl ?_ ?_ ?_ (fun _ _ _ h => h) (Or.inl ⟨by rfl, ?_⟩) ?_; (· decide +kernel); (· decide +kernel); (· decide +kernel); (· (intro w; go_simp))) | (refine wpAny_take (i := 13) (v := .pointer (some ⟨R, 0, none⟩)) rfl ?_ ?_ ?_ (fun _ _ _ h => h) (Or.inl ⟨by rfl, ?_⟩) ?_; (· decide +kernel); (· decide +kernel); (· decide +kernel); (· (intro w; go_simp))) | (refine wpAny_take (i := 14) (v := .pointer (some ⟨R, 0, none⟩)) rfl ?_ ?_ ?_ (fun _ _ _ h => h) (Or.inl ⟨by rfl, ?_⟩) ?_; (· decide +kernel); (· decide +kernel); (· decide +kernel); (· (intro w; go_simp))) | (refine wpAny_take (i := 16) (v := .pointer (some ⟨R, 0, none⟩)) rfl ?_ ?_ ?_ (fun _ _ _ h => h) (Or.inl ⟨by rfl, ?_⟩) ?_; (· decide +kernel); (· decide +kernel); (· decide +kernel); (· (intro w; go_simp))) | (refine wpAny_take (i := 17) (v := .pointer (some ⟨R, 0, none⟩)) rfl ?_ ?_ ?_ (fun _ _ _ h => h) (Or.inl ⟨by rfl, ?_⟩) ?_; (· decide +kernel); (· decide +kernel); (· decide +kernel); (· (intro w; go_simp))) | (refine wpAny_take (i := 18) (v := .pointer (some ⟨R, 0, none⟩)) rfl ?_ ?_ ?_ (fun _ _ _ h => h) (Or.inl ⟨by rfl, ?_⟩) ?_; (· decide +kernel); (· decide +kernel); (· decide +kernel); (· (intro w; go_simp))))
          refine wpAny_ready (rs := [11, 21]) (by decide +kernel) (by simp) ?_
          refine AllReady.cons rfl (fun K hK => ?_) (AllReady.cons rfl (fun K hK => ?_) AllReady.nil)
          · go_simp
            refine (rnat_any _ R T [.int .i64 0] bs2 false (by exact hrd2)).mono ?_
            rintro e w3 ⟨v3, x3, bs3, bad3, rfl, ⟨rfl, hn3⟩, hrd3, hg3, hl3, hh3⟩
            obtain ⟨hb3, C3⟩ := C2.step (lenI_on hh3.out)
            subst hb3
            clear hh3
            have K3 : W0.grownBy w3 (some R) := grownBy_trans (by exact K2) hg3
            have q3 := K3.size
            have r3 := hrd3.lt
            try dsimp only
            refine hK _ _ ?_
            clear hK K
            repeat (first | (refine wpAny_take (i := 0) (v := .pointer (some ⟨R, 0, none⟩)) rfl ?_ ?_ ?_ (fun _ _ _ h => h) (Or.inl ⟨by rfl, ?_⟩) ?_; (· decide +kernel); (· decide +kernel); (· decide +kernel); (· (intro w; go_simp))) | (refine wpAny_take (i := 1) (v := .pointer (some ⟨R, 0, none⟩)) rfl ?_ ?_ ?_ (fun _ _ _ h => h) (Or.inl ⟨by rfl, ?_⟩) ?_; (· decide +kernel); (· decide +kernel); (· decide +kernel); (· (intro w; go_simp))) | (refine wpAny_take (i := 2) (v := .pointer (some ⟨R, 0, none⟩)) rfl ?_ ?_ ?_ (fun _ _ _ h => h) (Or.inl ⟨by rfl, ?_⟩) ?_; (· decide +kernel); (· decide +kernel); (· decide +kernel); (· (intro w; go_simp))) | (refine wpAny_take (i := 4) (v := .pointer (some ⟨R, 0, none⟩)) rfl ?_ ?_ ?_ (fun _ _ _ h => h) (Or.inl ⟨by rfl, ?_⟩) ?_; (· decide +kernel); (· decide +kernel); (· decide +kernel); (· (intro w; go_simp))) | (refine wpAny_take (i := 5) (v := .pointer (some ⟨R, 0, none⟩)) rfl ?_ ?_ ?_ (fun _ _ _ h => h) (Or.inl ⟨by rfl, ?_⟩) ?_; (· decide +kernel); (· decide +kernel); (· decide +kernel); (· (intro w; go_simp))) | (refine wpAny_take (i := 6) (v := .pointer (some ⟨R, 0, none⟩)) rfl ?_ ?_ ?_ (fun _ _ _ h => h) (Or.inl ⟨by rfl, ?_⟩) ?_; (· decide +kernel); (· decide +kernel); (· decide +kernel); (· (intro w; go_simp))) | (refine wpAny_take (i := 8) (v := .pointer (some ⟨R, 0, none⟩)) rfl ?_ ?_ ?_ (fun _ _ _ h => h) (Or.inl ⟨by rfl, ?_⟩) ?_; (· decide +kernel); (· decide +kernel); (· decide +kernel); (· (intro w; go_simp))) | (refine wpAny_take (i := 9) (v := .pointer (some ⟨R, 0, none⟩)) rfl ?_ ?_ ?_ (fun _ _ _ h => h) (Or.inl ⟨by rfl, ?_⟩) ?_; (· decide +kernel); (· decide +kernel); (· decide +kernel); (· (intro w; go_simp))) | (refine wpAny_take (i := 10) (v := .pointer (some ⟨R, 0, none⟩)) rfl ?_ ?_ ?_ (fun _ _ _ h => h) (Or.inl ⟨by rfl, ?_⟩) ?_; (· decide +kernel); (· decide +kernel); (· decide +kernel); (· (intro w; go_simp))) | (refine wpAny_take (i := 12) (v := .pointer (some ⟨R, 0, none⟩)) rfl ?_ ?_ ?_ (fun _ _ _ h => h) (Or.inl ⟨by rfl, ?_⟩) ?_; (· decide +kernel); (· decide +kernel); (· decide +kernel); (· (intro w; go_simp))) | (refine wpAny_take (i := 13) (v := .pointer (some ⟨R, 0, none⟩)) rfl ?_ ?_ ?_ (fun _ _ _ h => h) (Or.inl ⟨by rfl, ?_⟩) ?_; (· decide +kernel); (· decide +kernel); (· decide +kernel); (· (intro w; go_simp))) | (refine wpAny_take (i := 14) (v := .pointer (some ⟨R, 0, none⟩)) rfl ?_ ?_ ?_ (fun _ _ _ h => h) (Or.inl ⟨by rfl, ?_⟩) ?_; (· decide +kernel); (· decide +kernel); (· decide +kernel); (· (intro w; go_simp))) | (refine wpAny_take (i := 16) (v := .pointer (some ⟨R, 0, none⟩)) rfl ?_ ?_ ?_ (fun _ _ _ h => h) (Or.inl ⟨by rfl, ?_⟩) ?_; (· decide +kernel); (· decide +kernel); (· decide +kernel); (· (intro w; go_simp))) | (refine wpAny_take (i := 17) (v := .pointer (some ⟨R, 0, none⟩)) rfl ?_ ?_ ?_ (fun _ _ _ h => h) (Or.inl ⟨by rfl, ?_⟩) ?_; (· decide +kernel); (· decide +kernel); (· decide +kernel); (· (intro w; go_simp))) | (refine wpAny_take (i := 18) (v := .pointer (some ⟨R, 0, none⟩)) rfl ?_ ?_ ?_ (fun _ _ _ h => h) (Or.inl ⟨by rfl, ?_⟩) ?_; (· decide +kernel); (· decide +kernel); (· decide +kernel); (· (intro w; go_simp))))
            refine wpAny_ready (rs := [15, 21]) (by decide +kernel) (by simp) ?_
            refine AllReady.cons rfl (fun K hK => ?_) (AllReady.cons rfl (fun K hK => ?_) AllReady.nil)
            · go_simp
              refine (rnat_any _ R T [.int .i64 0] bs3 false (by exact hrd3)).mono ?_
              rintro e w4 ⟨v4, x4, bs4, bad4, rfl, ⟨rfl, hn4⟩, hrd4, hg4, hl4, hh4⟩
              obtain ⟨hb4, C4⟩ := C3.step (lenI_on hh4.out)
              subst hb4
              clear hh4
              have K4 : W0.grownBy w4 (some R) := grownBy_trans (by exact K3) hg4
              have q4 := K4.size
              have r4 := hrd4.lt
              try dsimp only
              refine hK _ _ ?_
              clear hK K
              repeat (first | (refine wpAny_take (i := 0) (v := .pointer (some ⟨R, 0, none⟩)) rfl ?_ ?_ ?_ (fun _ _ _ h => h) (Or.inl ⟨by rfl, ?_⟩) ?_; (· decide +kernel); (· decide +kernel); (· decide +kernel); (· (intro w; go_simp))) | (refine wpAny_take (i := 1) (v := .pointer (some ⟨R, 0, none⟩)) rfl ?_ ?_ ?_ (fun _ _ _ h => h) (Or.inl ⟨by rfl, ?_⟩) ?_; (· decide +kernel); (· decide +kernel); (· decide +kernel); (· (intro w; go_simp))) | (refine wpAny_take (i := 2) (v := .pointer (some ⟨R, 0, none⟩)) rfl ?_ ?_ ?_ (fun _ _ _ h => h) (Or.inl ⟨by rfl, ?_⟩) ?_; (· decide +kernel); (· decide +kernel); (· decide +kernel); (· (intro w; go_simp))) | (refine wpAny_take (i := 4) (v := .pointer (some ⟨R, 0, none⟩)) rfl ?_ ?_ ?_ (fun _ _ _ h => h) (Or.inl ⟨by rfl, ?_⟩) ?_; (· decide +kernel); (· decide +kernel); (· decide +kernel); (· (intro w; go_simp))) | (refine wpAny_take (i := 5) (v := .pointer (some ⟨R, 0, none⟩)) rfl ?_ ?_ ?_ (fun _ _ _ h => h) (Or.inl ⟨by rfl, ?_⟩) ?_; (· decide +kernel); (· decide +kernel); (· decide +kernel); (· (intro w; go_simp))) | (refine wpAny_take (i := 6) (v := .pointer (some ⟨R, 0, none⟩)) rfl ?_ ?_ ?_ (fun _ _ _ h => h) (Or.inl ⟨by rfl, ?_⟩) ?_; (· decide +kernel); (· decide +kernel); (· decide +kernel); (· (intro w; go_simp))) | (refine wpAny_take (i := 8) (v := .pointer (some ⟨R, 0, none⟩)) rfl ?_ ?_ ?_ (fun _ _ _ h => h) (Or.inl ⟨by rfl, ?_⟩) ?_; (· decide +kernel); (· decide +kernel); (· decide +kernel); (· (intro w; go_simp))) | (refine wpAny_take (i := 9) (v := .pointer (some ⟨R, 0, none⟩)) rfl ?_ ?_ ?_ (fun _ _ _ h => h) (Or.inl ⟨by rfl, ?_⟩) ?_; (· decide +kernel); (· decide +kernel); (· decide +kernel); (· (intro w; go_simp))) | (refine wpAny_take (i := 10) (v := .pointer (some ⟨R, 0, none⟩)) rfl ?_ ?_ ?_ (fun _ _ _ h => h) (Or.inl ⟨by rfl, ?_⟩) ?_; (· decide +kernel); (· decide +kernel); (· decide +kernel); (· (intro w; go_simp))) | (refine wpAny_take (i := 12) (v := .pointer (some ⟨R, 0, none⟩)) rfl ?_ ?_ ?_ (fun _ _ _ h => h) (Or.inl ⟨by rfl, ?_⟩) ?_; (· decide +kernel); (· decide +kernel); (· decide +kernel); (· (intro w; go_simp))) | (refine wpAny_take (i := 13) (v := .pointer (some ⟨R, 0, none⟩)) rfl ?_ ?_ ?_ (fun _ _ _ h => h) (Or.inl ⟨by rfl, ?_⟩) ?_; (· decide +kernel); (· decide +kernel); (· decide +kernel); (· (intro w; go_simp))) | (refine wpAny_take (i := 14) (v := .pointer (some ⟨R, 0, none⟩)) rfl ?_ ?_ ?_ (fun _ _ _ h => h) (Or.inl ⟨by rfl, ?_⟩) ?_; (· decide +kernel); (· decide +kernel); (· decide +kernel); (· (intro w; go_simp))) | (refine wpAny_take (i := 16) (v := .pointer (some ⟨R, 0, none⟩)) rfl ?_ ?_ ?_ (fun _ _ _ h => h) (Or.inl ⟨by rfl, ?_⟩) ?_; (· decide +kernel); (· decide +kernel); (· decide +kernel); (· (intro w; go_simp))) | (refine wpAny_take (i := 17) (v := .pointer (some ⟨R, 0, none⟩)) rfl ?_ ?_ ?_ (fun _ _ _ h => h) (Or.inl ⟨by rfl, ?_⟩) ?_; (· decide +kernel); (· decide +kernel); (· decide +kernel); (· (intro w; go_simp))) | (refine wpAny_take (i := 18) (v := .pointer (some ⟨R, 0, none⟩)) rfl ?_ ?_ ?_ (fun _ _ _ h => h) (Or.inl ⟨by rfl, ?_⟩) ?_; (· decide +kernel); (· decide +kernel); (· decide +kernel); (· (intro w; go_simp))))
              refine wpAny_ready (rs := [19, 21]) (by decide +kernel) (by simp) ?_
              refine AllReady.cons rfl (fun K hK => ?_) (AllReady.cons rfl (fun K hK => ?_) AllReady.nil)
              · go_simp
                refine (rtext_any _ R T [.int .i64 0] bs4 false (by exact hrd4)).mono ?_
                rintro e w5 ⟨v5, x5, bs5, bad5, rfl, ⟨rfl, ht5⟩, hrd5, hg5, hl5, hh5⟩
                obtain ⟨hb5, C5⟩ := C4.step hh5.out
                subst hb5
                clear hh5
                have K5 : W0.grownBy w5 (some R) := grownBy_trans (by exact K4) hg5
                have q5 := K5.size
                have r5 := hrd5.lt
                try dsimp only
                refine hK _ _ ?_
                clear hK K
                repeat (first | (refine wpAny_take (i := 20) (v := .agg #[.int .i64 x1, .int .i64 (x2 : Int), .int .i64 (x3 : Int), .int .i64 (x4 : Int), .string x5, .int .i64 0, .int .i64 0, .string ⟨#[]⟩, .slice none 0 0]) rfl ?_ ?_ ?_ (fun _ _ _ h => h) (Or.inl ⟨by rfl, ?_⟩) ?_; (· decide +kernel); (· decide +kernel); (· decide +kernel); (· (intro w; go_simp))))
                refine wpAny_ready (rs := [21]) (by decide +kernel) (by simp) ?_
                refine AllReady.cons rfl (fun K hK => ?_) AllReady.nil
                go_simp
                refine hK _ _ ?_
                clear hK K
                refine wpAny_ready (rs := [22]) (by decide +kernel) (by simp) ?_
                refine AllReady.cons rfl (fun K hK => ?_) AllReady.nil
                go_simp
                refine hK _ _ ?_
                clear hK K
                refine wpAny_done (by decide +kernel) ?_ _
                go_wp2_with (fail)
                go_meet
                have hz5 := hB0.grown K5 (by simp; omega)
                have hG5 := grownBy_trans hG0 K5
                exact midL_new ⟨hx1, hx2⟩ hn2 hn3 hn4 (by omega) hz5 hrd5 hG5 (by omega) C5
              · go_simp
                refine hK _ _ ?_
                clear hK K
                repeat (first | (refine wpAny_take (i := 0) (v := .pointer (some ⟨R, 0, none⟩)) rfl ?_ ?_ ?_ (fun _ _ _ h => h) (Or.inl ⟨by rfl, ?_⟩) ?_; (· decide +kernel); (· decide +kernel); (· decide +kernel); (· (intro w; go_simp))) | (refine wpAny_take (i := 1) (v := .pointer (some ⟨R, 0, none⟩)) rfl ?_ ?_ ?_ (fun _ _ _ h => h) (Or.inl ⟨by rfl, ?_⟩) ?_; (· decide +kernel); (· decide +kernel); (· decide +kernel); (· (intro w; go_simp))) | (refine wpAny_take (i := 2) (v := .pointer (some ⟨R, 0, none⟩)) rfl ?_ ?_ ?_ (fun _ _ _ h => h) (Or.inl ⟨by rfl, ?_⟩) ?_; (· decide +kernel); (· decide +kernel); (· decide +kernel); (· (intro w; go_simp))) | (refine wpAny_take (i := 4) (v := .pointer (some ⟨R, 0, none⟩)) rfl ?_ ?_ ?_ (fun _ _ _ h => h) (Or.inl ⟨by rfl, ?_⟩) ?_; (· decide +kernel); (· decide +kernel); (· decide +kernel); (· (intro w; go_simp))) | (refine wpAny_take (i := 5) (v := .pointer (some ⟨R, 0, none⟩)) rfl ?_ ?_ ?_ (fun _ _ _ h => h) (Or.inl ⟨by rfl, ?_⟩) ?_; (· decide +kernel); (· decide +kernel); (· decide +kernel); (· (intro w; go_simp))) | (refine wpAny_take (i := 6) (v := .pointer (some ⟨R, 0, none⟩)) rfl ?_ ?_ ?_ (fun _ _ _ h => h) (Or.inl ⟨by rfl, ?_⟩) ?_; (· decide +kernel); (· decide +kernel); (· decide +kernel); (· (intro w; go_simp))) | (refine wpAny_take (i := 8) (v := .pointer (some ⟨R, 0, none⟩)) rfl ?_ ?_ ?_ (fun _ _ _ h => h) (Or.inl ⟨by rfl, ?_⟩) ?_; (· decide +kernel); (· decide +kernel); (· decide +kernel); (· (intro w; go_simp))) | (refine wpAny_take (i := 9) (v := .pointer (some ⟨R, 0, none⟩)) rfl ?_ ?_ ?_ (fun _ _ _ h => h) (Or.inl ⟨by rfl, ?_⟩) ?_; (· decide +kernel); (· decide +kernel); (· decide +kernel); (· (intro w; go_simp))) | (refine wpAny_take (i := 10) (v := .pointer (some ⟨R, 0, none⟩)) rfl ?_ ?_ ?_ (fun _ _ _ h => h) (Or.inl ⟨by rfl, ?_⟩) ?_; (· decide +kernel); (· decide +kernel); (· decide +kernel); (· (intro w; go_simp))) | (refine wpAny_take (i := 12) (v := .pointer (some ⟨R, 0, none⟩)) rfl ?_ ?_ ?_ (fun _ _ _ h => h) (Or.inl ⟨by rfl, ?_⟩) ?_; (· decide +kernel); (· decide +kernel); (· decide +kernel); (· (intro w; go_simp))) | (refine wpAny_take (i := 13) (v := .pointer (some ⟨R, 0, none⟩)) rfl ?_ ?_ ?_ (fun _ _ _ h => h) (Or.inl ⟨by rfl, ?_⟩) ?_; (· decide +kernel); (· decide +kernel); (· decide +kernel); (· (intro w; go_simp))) | (refine wpAny_take (i := 14) (v := .pointer (some ⟨R, 0, none⟩)) rfl ?_ ?_ ?_ (fun _ _ _ h => h) (Or.inl ⟨by rfl, ?_⟩) ?_; (· decide +kernel); (· decide +kernel); (· decide +kernel); (· (intro w; go_simp))) | (refine wpAny_take (i := 16) (v := .pointer (some ⟨R, 0, none⟩)) rfl ?_ ?_ ?_ (fun _ _ _ h => h) (Or.inl ⟨by rfl, ?_⟩) ?_; (· decide +kernel); (· decide +kernel); (· decide +kernel); (· (intro w; go_simp))) | (refine wpAny_take (i := 17) (v := .pointer (some ⟨R, 0, none⟩)) rfl ?_ ?_ ?_ (fun _ _ _ h => h) (Or.inl ⟨by rfl, ?_⟩) ?_; (· decide +kernel); (· decide +kernel); (· decide +kernel); (· (intro w; go_simp))) | (refine wpAny_take (i := 18) (v := .pointer (some ⟨R, 0, none⟩)) rfl ?_ ?_ ?_ (fun _ _ _ h => h) (Or.inl ⟨by rfl, ?_⟩) ?_; (· decide +kernel); (· decide +kernel); (· decide +kernel); (· (intro w; go_simp))))
                refine wpAny_ready (rs := [19]) (by decide +kernel) (by simp) ?_
                refine AllReady.cons rfl (fun K hK => ?_) AllReady.nil
                go_simp
                refine (rtext_any _ R T [.int .i64 0] bs4 false (by exact hrd4.alloc _)).mono ?_
                rintro e w5 ⟨v5, x5, bs5, bad5, rfl, ⟨rfl, ht5⟩, hrd5, hg5, hl5, hh5⟩
                obtain ⟨hb5, C5⟩ := C4.step hh5.out
                subst hb5
                clear hh5
                have K5 : W0.grownBy w5 (some R) := grownBy_trans (by exact (grownBy_alloc K4 _)) hg5
                have q5 := K5.size
                have r5 := hrd5.lt
                have hB5 : Blk w5 w4.heap.size 55 [.int .i64 0, .int .i64 0, .int .i64 0, .int .i64 0, .string ⟨#[]⟩, .int .i64 0, .int .i64 0, .string ⟨#[]⟩, .slice none 0 0] := Blk.grown (by exact ZZ.out w4) hg5 (by simp; omega)
                have k0 := hB5.cell 0
                have j0 := hB5.frozen 0
                have k1 := hB5.cell 1
                have j1 := hB5.frozen 1
                have k2 := hB5.cell 2
                have j2 := hB5.frozen 2
                have k3 := hB5.cell 3
                have j3 := hB5.frozen 3
                have k4 := hB5.cell 4
                have j4 := hB5.frozen 4
                have k5 := hB5.cell 5
                have j5 := hB5.frozen 5
                have k6 := hB5.cell 6
                have j6 := hB5.frozen 6
                have k7 := hB5.cell 7
                have j7 := hB5.frozen 7
                have k8 := hB5.cell 8
                have j8 := hB5.frozen 8
                have jl := hB5.lt
                simp only [List.getElem?_cons_succ, List.getElem?_cons_zero] at k0 k1 k2 k3 k4 k5 k6 k7 k8
                try dsimp only
                refine hK _ _ ?_
                clear hK K
                repeat (first | (refine wpAny_take (i := 20) (v := .agg #[.int .i64 x1, .int .i64 (x2 : Int), .int .i64 (x3 : Int), .int .i64 (x4 : Int), .string x5, .int .i64 0, .int .i64 0, .string ⟨#[]⟩, .slice none 0 0]) rfl ?_ ?_ ?_ (fun _ _ _ h => h) (Or.inl ⟨by rfl, ?_⟩) ?_; (· decide +kernel); (· decide +kernel); (· decide +kernel); (· (intro w; go_simp))))
                refine wpAny_ready (rs := [22]) (by decide +kernel) (by simp) ?_
                refine AllReady.cons rfl (fun K hK => ?_) AllReady.nil
                go_simp
                refine hK _ _ ?_
                clear hK K
                refine wpAny_done (by decide +kernel) ?_ _
                go_wp2_with (fail)
                go_meet
                have hz5 := hB0.grown K5 (by simp; omega)
                have hG5 := grownBy_trans hG0 K5
                exact midL_set hB5 (by omega) l1 ⟨hx1, hx2⟩ hn2 hn3 hn4 (by omega) hz5 hrd5 hG5 (by omega) C5
            · go_simp
              refine hK _ _ ?_
              clear hK K
              repeat (first | (refine wpAny_take (i := 0) (v := .pointer (some ⟨R, 0, none⟩)) rfl ?_ ?_ ?_ (fun _ _ _ h => h) (Or.inl ⟨by rfl, ?_⟩) ?_; (· decide +kernel); (· decide +kernel); (· decide +kernel); (· (intro w; go_simp))) | (refine wpAny_take (i := 1) (v := .pointer (some ⟨R, 0, none⟩)) rfl ?_ ?_ ?_ (fun _ _ _ h => h) (Or.inl ⟨by rfl, ?_⟩) ?_; (· decide +kernel); (· decide +kernel); (· decide +kernel); (· (intro w; go_simp))) | (refine wpAny_take (i := 2) (v := .pointer (some ⟨R, 0, none⟩)) rfl ?_ ?_ ?_ (fun _ _ _ h => h) (Or.inl ⟨by rfl, ?_⟩) ?_; (· decide +kernel); (· decide +kernel); (· decide +kernel); (· (intro w; go_simp))) | (refine wpAny_take (i := 4) (v := .pointer (some ⟨R, 0, none⟩)) rfl ?_ ?_ ?_ (fun _ _ _ h => h) (Or.inl ⟨by rfl, ?_⟩) ?_; (· decide +kernel); (· decide +kernel); (· decide +kernel); (· (intro w; go_simp))) | (refine wpAny_take (i := 5) (v := .pointer (some ⟨R, 0, none⟩)) rfl ?_ ?_ ?_ (fun _ _ _ h => h) (Or.inl ⟨by rfl, ?_⟩) ?_; (· decide +kernel); (· decide +kernel); (· decide +kernel); (· (intro w; go_simp))) | (refine wpAny_take (i := 6) (v := .pointer (some ⟨R, 0, none⟩)) rfl ?_ ?_ ?_ (fun _ _ _ h => h) (Or.inl ⟨by rfl, ?_⟩) ?_; (· decide +kernel); (· decide +kernel); (· decide +kernel); (· (intro w; go_simp))) | (refine wpAny_take (i := 8) (v := .pointer (some ⟨R, 0, none⟩)) rfl ?_ ?_ ?_ (fun _ _ _ h => h) (Or.inl ⟨by rfl, ?_⟩) ?_; (· decide +kernel); (· decide +kernel); (· decide +kernel); (· (intro w; go_simp))) | (refine wpAny_take (i := 9) (v := .pointer (some ⟨R, 0, none⟩)) rfl ?_ ?_ ?_ (fun _ _ _ h => h) (Or.inl ⟨by rfl, ?_⟩) ?_; (· decide +kernel); (· decide +kernel); (· decide +kernel); (· (intro w; go_simp))) | (refine wpAny_take (i := 10) (v := .pointer (some ⟨R, 0, none⟩)) rfl ?_ ?_ ?_ (fun _ _ _ h => h) (Or.inl ⟨by rfl, ?_⟩) ?_; (· decide +kernel); (· decide +kernel); (· decide +kernel); (· (intro w; go_simp))) | (refine wpAny_take (i := 12) (v := .pointer (some ⟨R, 0, none⟩)) rfl ?_ ?_ ?_ (fun _ _ _ h => h) (Or.inl ⟨by rfl, ?_⟩) ?_; (· decide +kernel); (· decide +kernel); (· decide +kernel); (· (intro w; go_simp))) | (refine wpAny_take (i := 13) (v := .pointer (some ⟨R, 0, none⟩)) rfl ?_ ?_ ?_ (fun _ _ _ h => h) (Or.inl ⟨by rfl, ?_⟩) ?_; (· decide +kernel); (· decide +kernel); (· decide +kernel); (· (intro w; go_simp))) | (refine wpAny_take (i := 14) (v := .pointer (some ⟨R, 0, none⟩)) rfl ?_ ?_ ?_ (fun _ _ _ h => h) (Or.inl ⟨by rfl, ?_⟩) ?_; (· decide +kernel); (· decide +kernel); (· decide +kernel); (· (intro w; go_simp))) | (refine wpAny_take (i := 16) (v := .pointer (some ⟨R, 0, none⟩)) rfl ?_ ?_ ?_ (fun _ _ _ h => h) (Or.inl ⟨by rfl, ?_⟩) ?_; (· decide +kernel); (· decide +kernel); (· decide +kernel); (· (intro w; go_simp))) | (refine wpAny_take (i := 17) (v := .pointer (some ⟨R, 0, none⟩)) rfl ?_ ?_ ?_ (fun _ _ _ h => h) (Or.inl ⟨by rfl, ?_⟩) ?_; (· decide +kernel); (· decide +kernel); (· decide +kernel); (· (intro w; go_simp))) | (refine wpAny_take (i := 18) (v := .pointer (some ⟨R, 0, none⟩)) rfl ?_ ?_ ?_ (fun _ _ _ h => h) (Or.inl ⟨by rfl, ?_⟩) ?_; (· decide +kernel); (· decide +kernel); (· decide +kernel); (· (intro w; go_simp))))
              refine wpAny_ready (rs := [15]) (by decide +kernel) (by simp) ?_
              refine AllReady.cons rfl (fun K hK => ?_) AllReady.nil
              go_simp
              refine (rnat_any _ R T [.int .i64 0] bs3 false (by exact hrd3.alloc _)).mono ?_
              rintro e w4 ⟨v4, x4, bs4, bad4, rfl, ⟨rfl, hn4⟩, hrd4, hg4, hl4, hh4⟩
              obtain ⟨hb4, C4⟩ := C3.step (lenI_on hh4.out)
              subst hb4
              clear hh4
              have K4 : W0.grownBy w4 (some R) := grownBy_trans (by exact (grownBy_alloc K3 _)) hg4
              have q4 := K4.size
              have r4 := hrd4.lt
              have hB4 : Blk w4 w3.heap.size 55 [.int .i64 0, .int .i64 0, .int .i64 0, .int .i64 0, .string ⟨#[]⟩, .int .i64 0, .int .i64 0, .string ⟨#[]⟩, .slice none 0 0] := Blk.grown (by exact ZZ.out w3) hg4 (by simp; omega)
              try dsimp only
              refine hK _ _ ?_
              clear hK K
              repeat (first | (refine wpAny_take (i := 0) (v := .pointer (some ⟨R, 0, none⟩)) rfl ?_ ?_ ?_ (fun _ _ _ h => h) (Or.inl ⟨by rfl, ?_⟩) ?_; (· decide +kernel); (· decide +kernel); (· decide +kernel); (· (intro w; go_simp))) | (refine wpAny_take (i := 1) (v := .pointer (some ⟨R, 0, none⟩)) rfl ?_ ?_ ?_ (fun _ _ _ h => h) (Or.inl ⟨by rfl, ?_⟩) ?_; (· decide +kernel); (· decide +kernel); (· decide +kernel); (· (intro w; go_simp))) | (refine wpAny_take (i := 2) (v := .pointer (some ⟨R, 0, none⟩)) rfl ?_ ?_ ?_ (fun _ _ _ h => h) (Or.inl ⟨by rfl, ?_⟩) ?_; (· decide +kernel); (· decide +kernel); (· decide +kernel); (· (intro w; go_simp))) | (refine wpAny_take (i := 4) (v := .pointer (some ⟨R, 0, none⟩)) rfl ?_ ?_ ?_ (fun _ _ _ h => h) (Or.inl ⟨by rfl, ?_⟩) ?_; (· decide +kernel); (· decide +kernel); (· decide +kernel); (· (intro w; go_simp))) | (refine wpAny_take (i := 5) (v := .pointer (some ⟨R, 0, none⟩)) rfl ?_ ?_ ?_ (fun _ _ _ h => h) (Or.inl ⟨by rfl, ?_⟩) ?_; (· decide +kernel); (· decide +kernel); (· decide +kernel); (· (intro w; go_simp))) | (refine wpAny_take (i := 6) (v := .pointer (some ⟨R, 0, none⟩)) rfl ?_ ?_ ?_ (fun _ _ _ h => h) (Or.inl ⟨by rfl, ?_⟩) ?_; (· decide +kernel); (· decide +kernel); (· decide +kernel); (· (intro w; go_simp))) | (refine wpAny_take (i := 8) (v := .pointer (some ⟨R, 0, none⟩)) rfl ?_ ?_ ?_ (fun _ _ _ h => h) (Or.inl ⟨by rfl, ?_⟩) ?_; (· decide +kernel); (· decide +kernel); (· decide +kernel); (· (intro w; go_simp))) | (refine wpAny_take (i := 9) (v := .pointer (some ⟨R, 0, none⟩)) rfl ?_ ?_ ?_ (fun _ _ _ h => h) (Or.inl ⟨by rfl, ?_⟩) ?_; (· decide +kernel); (· decide +kernel); (· decide +kernel); (· (intro w; go_simp))) | (refine wpAny_take (i := 10) (v := .pointer (some ⟨R, 0, none⟩)) rfl ?_ ?_ ?_ (fun _ _ _ h => h) (Or.inl ⟨by rfl, ?_⟩) ?_; (· decide +kernel); (· decide +kernel); (· decide +kernel); (· (intro w; go_simp))) | (refine wpAny_take (i := 12) (v := .pointer (some ⟨R, 0, none⟩)) rfl ?_ ?_ ?_ (fun _ _ _ h => h) (Or.inl ⟨by rfl, ?_⟩) ?_; (· decide +kernel); (· decide +kernel); (· decide +kernel); (· (intro w; go_simp))) | (refine wpAny_take (i := 13) (v := .pointer (some ⟨R, 0, none⟩)) rfl ?_ ?_ ?_ (fun _ _ _ h => h) (Or.inl ⟨by rfl, ?_⟩) ?_; (· decide +kernel); (· decide +kernel); (· decide +kernel); (· (intro w; go_simp))) | (refine wpAny_take (i := 14) (v := .pointer (some ⟨R, 0, none⟩)) rfl ?_ ?_ ?_ (fun _ _ _ h => h) (Or.inl ⟨by rfl, ?_⟩) ?_; (· decide +kernel); (· decide +kernel); (· decide +kernel); (· (intro w; go_simp))) | (refine wpAny_take (i := 16) (v := .pointer (some ⟨R, 0, none⟩)) rfl ?_ ?_ ?_ (fun _ _ _ h => h) (Or.inl ⟨by rfl, ?_⟩) ?_; (· decide +kernel); (· decide +kernel); (· decide +kernel); (· (intro w; go_simp))) | (refine wpAny_take (i := 17) (v := .pointer (some ⟨R, 0, none⟩)) rfl ?_ ?_ ?_ (fun _ _ _ h => h) (Or.inl ⟨by rfl, ?_⟩) ?_; (· decide +kernel); (· decide +kernel); (· decide +kernel); (· (intro w; go_simp))) | (refine wpAny_take (i := 18) (v := .pointer (some ⟨R, 0, none⟩)) rfl ?_ ?_ ?_ (fun _ _ _ h => h) (Or.inl ⟨by rfl, ?_⟩) ?_; (· decide +kernel); (· decide +kernel); (· decide +kernel); (· (intro w; go_simp))))
              refine wpAny_ready (rs := [19]) (by decide +kernel) (by simp) ?_
              refine AllReady.cons rfl (fun K hK => ?_) AllReady.nil
              go_simp
              refine (rtext_any _ R T [.int .i64 0] bs4 false (by exact hrd4)).mono ?_
              rintro e w5 ⟨v5, x5, bs5, bad5, rfl, ⟨rfl, ht5⟩, hrd5, hg5, hl5, hh5⟩
              obtain ⟨hb5, C5⟩ := C4.step hh5.out
              subst hb5
              clear hh5
              have K5 : W0.grownBy w5 (some R) := grownBy_trans (by exact K4) hg5
              have q5 := K5.size
              have r5 := hrd5.lt
              have hB5 : Blk w5 w3.heap.size 55 [.int .i64 0, .int .i64 0, .int .i64 0, .int .i64 0, .string ⟨#[]⟩, .int .i64 0, .int .i64 0, .string ⟨#[]⟩, .slice none 0 0] := Blk.grown hB4 hg5 (by simp; omega)
              have k0 := hB5.cell 0
              have j0 := hB5.frozen 0
              have k1 := hB5.cell 1
              have j1 := hB5.frozen 1
              have k2 := hB5.cell 2
              have j2 := hB5.frozen 2
              have k3 := hB5.cell 3
              have j3 := hB5.frozen 3
              have k4 := hB5.cell 4
              have j4 := hB5.frozen 4
              have k5 := hB5.cell 5
              have j5 := hB5.frozen 5
              have k6 := hB5.cell 6
              have j6 := hB5.frozen 6
              have k7 := hB5.cell 7
              have j7 := hB5.frozen 7
              have k8 := hB5.cell 8
              have j8 := hB5.frozen 8
              have jl := hB5.lt
              simp only [List.getElem?_cons_succ, List.getElem?_cons_zero] at k0 k1 k2 k3 k4 k5 k6 k7 k8
              try dsimp only
              refine hK _ _ ?_
              clear hK K
              repeat (first | (refine wpAny_take (i := 20) (v := .agg #[.int .i64 x1, .int .i64 (x2 : Int), .int .i64 (x3 : Int), .int .i64 (x4 : Int), .string x5, .int .i64 0, .int .i64 0, .string ⟨#[]⟩, .slice none 0 0]) rfl ?_ ?_ ?_ (fun _ _ _ h => h) (Or.inl ⟨by rfl, ?_⟩) ?_; (· decide +kernel); (· decide +kernel); (· decide +kernel); (· (intro w; go_simp))))
              refine wpAny_ready (rs := [22]) (by decide +kernel) (by simp) ?_
              refine AllReady.cons rfl (fun K hK => ?_) AllReady.nil
              go_simp
              refine hK _ _ ?_
              clear hK K
              refine wpAny_done (by decide +kernel) ?_ _
              go_wp2_with (fail)
              go_meet
              have hz5 := hB0.grown K5 (by simp; omega)
              have hG5 := grownBy_trans hG0 K5
              exact midL_set hB5 (by omega) l1 ⟨hx1, hx2⟩ hn2 hn3 hn4 (by omega) hz5 hrd5 hG5 (by omega) C5
          · go_simp
            refine hK _ _ ?_
            clear hK K
            repeat (first | (refine wpAny_take (i := 0) (v := .pointer (some ⟨R, 0, none⟩)) rfl ?_ ?_ ?_ (fun _ _ _ h => h) (Or.inl ⟨by rfl, ?_⟩) ?_; (· decide +kernel); (· decide +kernel); (· decide +kernel); (· (intro w; go_simp))) | (refine wpAny_take (i := 1) (v := .pointer (some ⟨R, 0, none⟩)) rfl ?_ ?_ ?_ (fun _ _ _ h => h) (Or.inl ⟨by rfl, ?_⟩) ?_; (· decide +kernel); (· decide +kernel); (· decide +kernel); (· (intro w; go_simp))) | (refine wpAny_take (i := 2) (v := .pointer (some ⟨R, 0, none⟩)) rfl ?_ ?_ ?_ (fun _ _ _ h => h) (Or.inl ⟨by rfl, ?_⟩) ?_; (· decide +kernel); (· decide +kernel); (· decide +kernel); (· (intro w; go_simp))) | (refine wpAny_take (i := 4) (v := .pointer (some ⟨R, 0, none⟩)) rfl ?_ ?_ ?_ (fun _ _ _ h => h) (Or.inl ⟨by rfl, ?_⟩) ?_; (· decide +kernel); (· decide +kernel); (· decide +kernel); (· (intro w; go_simp))) | (refine wpAny_take (i := 5) (v := .pointer (some ⟨R, 0, none⟩)) rfl ?_ ?_ ?_ (fun _ _ _ h => h) (Or.inl ⟨by rfl, ?_⟩) ?_; (· decide +kernel); (· decide +kernel); (· decide +kernel); (· (intro w; go_simp))) | (refine wpAny_take (i := 6) (v := .pointer (some ⟨R, 0, none⟩)) rfl ?_ ?_ ?_ (fun _ _ _ h => h) (Or.inl ⟨by rfl, ?_⟩) ?_; (· decide +kernel); (· decide +kernel); (· decide +kernel); (· (intro w; go_simp))) | (refine wpAny_take (i := 8) (v := .pointer (some ⟨R, 0, none⟩)) rfl ?_ ?_ ?_ (fun _ _ _ h => h) (Or.inl ⟨by rfl, ?_⟩) ?_; (· decide +kernel); (· decide +kernel); (· decide +kernel); (· (intro w; go_simp))) | (refine wpAny_take (i := 9) (v := .pointer (some ⟨R, 0, none⟩)) rfl ?_ ?_ ?_ (fun _ _ _ h => h) (Or.inl ⟨by rfl, ?_⟩) ?_; (· decide +kernel); (· decide +kernel); (· decide +kernel); (· (intro w; go_simp))) | (refine wpAny_take (i := 10) (v := .pointer (some ⟨R, 0, none⟩)) rfl ?_ ?_ ?_ (fun _ _ _ h => h) (Or.inl ⟨by rfl, ?_⟩) ?_; (· decide +kernel); (· decide +kernel); (· decide +kernel); (· (intro w; go_simp))) | (refine wpAny_take (i := 12) (v := .pointer (some ⟨R, 0, none⟩)) rfl ?_ ?_ ?_ (fun _ _ _ h => h) (Or.inl ⟨by rfl, ?_⟩) ?_; (· decide +kernel); (· decide +kernel); (· decide +kernel); (· (intro w; go_simp))) | (refine wpAny_take (i := 13) (v := .pointer (some ⟨R, 0, none⟩)) rfl ?_ ?_ ?_ (fun _ _ _ h => h) (Or.inl ⟨by rfl, ?_⟩) ?_; (· decide +kernel); (· decide +kernel); (· decide +kernel); (· (intro w; go_simp))) | (refine wpAny_take (i := 14) (v := .pointer (some ⟨R, 0, none⟩)) rfl ?_ ?_ ?_ (fun _ _ _ h => h) (Or.inl ⟨by rfl, ?_⟩) ?_; (· decide +kernel); (· decide +kernel); (· decide +kernel); (· (intro w; go_simp))) | (refine wpAny_take (i := 16) (v := .pointer (some ⟨R, 0, none⟩)) rfl ?_ ?_ ?_ (fun _ _ _ h => h) (Or.inl ⟨by rfl, ?_⟩) ?_; (· decide +kernel); (· decide +kernel); (· decide +kernel); (· (intro w; go_simp))) | (refine wpAny_take (i := 17) (v := .pointer (some ⟨R, 0, none⟩)) rfl ?_ ?_ ?_ (fun _ _ _ h => h) (Or.inl ⟨by rfl, ?_⟩) ?_; (· decide +kernel); (· decide +kernel); (· decide +kernel); (· (intro w; go_simp))) | (refine wpAny_take (i := 18) (v := .pointer (some ⟨R, 0, none⟩)) rfl ?_ ?_ ?_ (fun _ _ _ h => h) (Or.inl ⟨by rfl, ?_⟩) ?_; (· decide +kernel); (· decide +kernel); (· decide +kernel); (· (intro w; go_simp))))
            refine wpAny_ready (rs := [11]) (by decide +kernel) (by simp) ?_
            refine AllReady.cons rfl (fun K hK => ?_) AllReady.nil
            go_simp
            refine (rnat_any _ R T [.int .i64 0] bs2 false (by exact hrd2.alloc _)).mono ?_
            rintro e w3 ⟨v3, x3, bs3, bad3, rfl, ⟨rfl, hn3⟩, hrd3, hg3, hl3, hh3⟩
            obtain ⟨hb3, C3⟩ := C2.step (lenI_on hh3.out)
            subst hb3
            clear hh3
            have K3 : W0.grownBy w3 (some R) := grownBy_trans (by exact (grownBy_alloc K2 _)) hg3
            have q3 := K3.size
            have r3 := hrd3.lt
            have hB3 : Blk w3 w2.heap.size 55 [.int .i64 0, .int .i64 0, .int .i64 0, .int .i64 0, .string ⟨#[]⟩, .int .i64 0, .int .i64 0, .string ⟨#[]⟩, .slice none 0 0] := Blk.grown (by exact ZZ.out w2) hg3 (by simp; omega)
            try dsimp only
            refine hK _ _ ?_
            clear hK K
            repeat (first | (refine wpAny_take (i := 0) (v := .pointer (some ⟨R, 0, none⟩)) rfl ?_ ?_ ?_ (fun _ _ _ h => h) (Or.inl ⟨by rfl, ?_⟩) ?_; (· decide +kernel); (· decide +kernel); (· decide +kernel); (· (intro w; go_simp))) | (refine wpAny_take (i := 1) (v := .pointer (some ⟨R, 0, none⟩)) rfl ?_ ?_ ?_ (fun _ _ _ h => h) (Or.inl ⟨by rfl, ?_⟩) ?_; (· decide +kernel); (· decide +kernel); (· decide +kernel); (· (intro w; go_simp))) | (refine wpAny_take (i := 2) (v := .pointer (some ⟨R, 0, none⟩)) rfl ?_ ?_ ?_ (fun _ _ _ h => h) (Or.inl ⟨by rfl, ?_⟩) ?_; (· decide +kernel); (· decide +kernel); (· decide +kernel); (· (intro w; go_simp))) | (refine wpAny_take (i := 4) (v := .pointer (some ⟨R, 0, none⟩)) rfl ?_ ?_ ?_ (fun _ _ _ h => h) (Or.inl ⟨by rfl, ?_⟩) ?_; (· decide +kernel); (· decide +kernel); (· decide +kernel); (· (intro w; go_simp))) | (refine wpAny_take (i := 5) (v := .pointer (some ⟨R, 0, none⟩)) rfl ?_ ?_ ?_ (fun _ _ _ h => h) (Or.inl ⟨by rfl, ?_⟩) ?_; (· decide +kernel); (· decide +kernel); (· decide +kernel); (· (intro w; go_simp))) | (refine wpAny_take (i := 6) (v := .pointer (some ⟨R, 0, none⟩)) rfl ?_ ?_ ?_ (fun _ _ _ h => h) (Or.inl ⟨by rfl, ?_⟩) ?_; (· decide +kernel); (· decide +kernel); (· decide +kernel); (· (intro w; go_simp))) | (refine wpAny_take (i := 8) (v := .pointer (some ⟨R, 0, none⟩)) rfl ?_ ?_ ?_ (fun _ _ _ h => h) (Or.inl ⟨by rfl, ?_⟩) ?_; (· decide +kernel); (· decide +kernel); (· decide +kernel); (· (intro w; go_simp))) | (refine wpAny_take (i := 9) (v := .pointer (some ⟨R, 0, none⟩)) rfl ?_ ?_ ?_ (fun _ _ _ h => h) (Or.inl ⟨by rfl, ?_⟩) ?_; (· decide +kernel); (· decide +kernel); (· decide +kernel); (· (intro w; go_simp))) | (refine wpAny_take (i := 10) (v := .pointer (some ⟨R, 0, none⟩)) rfl ?_ ?_ ?_ (fun _ _ _ h => h) (Or.inl ⟨by rfl, ?_⟩) ?_; (· decide +kernel); (· decide +kernel); (· decide +kernel); (· (intro w; go_simp))) | (refine wpAny_take (i := 12) (v := .pointer (some ⟨R, 0, none⟩)) rfl ?_ ?_ ?_ (fun _ _ _ h => h) (Or.inl ⟨by rfl, ?_⟩) ?_; (· decide +kernel); (· decide +kernel); (· decide +kernel); (· (intro w; go_simp))) | (refine wpAny_take (i := 13) (v := .pointer (some ⟨R, 0, none⟩)) rfl ?_ ?_ ?_ (fun _ _ _ h => h) (Or.inl ⟨by rfl, ?_⟩) ?_; (· decide +kernel); (· decide +kernel); (· decide +kernel); (· (intro w; go_simp))) | (refine wpAny_take (i := 14) (v := .pointer (some ⟨R, 0, none⟩)) rfl ?_ ?_ ?_ (fun _ _ _ h => h) (Or.inl ⟨by rfl, ?_⟩) ?_; (· decide +kernel); (· decide +kernel); (· decide +kernel); (· (intro w; go_simp))) | (refine wpAny_take (i := 16) (v := .pointer (some ⟨R, 0, none⟩)) rfl ?_ ?_ ?_ (fun _ _ _ h => h) (Or.inl ⟨by rfl, ?_⟩) ?_; (· decide +kernel); (· decide +kernel); (· decide +kernel); (· (intro w; go_simp))) | (refine wpAny_take (i := 17) (v := .pointer (some ⟨R, 0, none⟩)) rfl ?_ ?_ ?_ (fun _ _ _ h => h) (Or.inl ⟨by rfl, ?_⟩) ?_; (· decide +kernel); (· decide +kernel); (· decide +kernel); (· (intro w; go_simp))) | (refine wpAny_take (i := 18) (v := .pointer (some ⟨R, 0, none⟩)) rfl ?_ ?_ ?_ (fun _ _ _ h => h) (Or.inl ⟨by rfl, ?_⟩) ?_; (· decide +kernel); (· decide +kernel); (· decide +kernel); (· (intro w; go_simp))))
            refine wpAny_ready (rs := [15]) (by decide +kernel) (by simp) ?_
            refine AllReady.cons rfl (fun K hK => ?_) AllReady.nil
            go_simp
            refine (rnat_any _ R T [.int .i64 0] bs3 false (by exact hrd3)).mono ?_
            rintro e w4 ⟨v4, x4, bs4, bad4, rfl, ⟨rfl, hn4⟩, hrd4, hg4, hl4, hh4⟩
            obtain ⟨hb4, C4⟩ := C3.step (lenI_on hh4.out)
            subst hb4
            clear hh4
            have K4 : W0.grownBy w4 (some R) := grownBy_trans (by exact K3) hg4
            have q4 := K4.size
            have r4 := hrd4.lt
            have hB4 : Blk w4 w2.heap.size 55 [.int .i64 0, .int .i64 0, .int .i64 0, .int .i64 0, .string ⟨#[]⟩, .int .i64 0, .int .i64 0, .string ⟨#[]⟩, .slice none 0 0] := Blk.grown hB3 hg4 (by simp; omega)
            try dsimp only
            refine hK _ _ ?_
            clear hK K
            repeat (first | (refine wpAny_take (i := 0) (v := .pointer (some ⟨R, 0, none⟩)) rfl ?_ ?_ ?_ (fun _ _ _ h => h) (Or.inl ⟨by rfl, ?_⟩) ?_; (· decide +kernel); (· decide +kernel); (· decide +kernel); (· (intro w; go_simp))) | (refine wpAny_take (i := 1) (v := .pointer (some ⟨R, 0, none⟩)) rfl ?_ ?_ ?_ (fun _ _ _ h => h) (Or.inl ⟨by rfl, ?_⟩) ?_; (· decide +kernel); (· decide +kernel); (· decide +kernel); (· (intro w; go_simp))) | (refine wpAny_take (i := 2) (v := .pointer (some ⟨R, 0, none⟩)) rfl ?_ ?_ ?_ (fun _ _ _ h => h) (Or.inl ⟨by rfl, ?_⟩) ?_; (· decide +kernel); (· decide +kernel); (· decide +kernel); (· (intro w; go_simp))) | (refine wpAny_take (i := 4) (v := .pointer (some ⟨R, 0, none⟩)) rfl ?_ ?_ ?_ (fun _ _ _ h => h) (Or.inl ⟨by rfl, ?_⟩) ?_; (· decide +kernel); (· decide +kernel); (· decide +kernel); (· (intro w; go_simp))) | (refine wpAny_take (i := 5) (v := .pointer (some ⟨R, 0, none⟩)) rfl ?_ ?_ ?_ (fun _ _ _ h => h) (Or.inl ⟨by rfl, ?_⟩) ?_; (· decide +kernel); (· decide +kernel); (· decide +kernel); (· (intro w; go_simp))) | (refine wpAny_take (i := 6) (v := .pointer (some ⟨R, 0, none⟩)) rfl ?_ ?_ ?_ (fun _ _ _ h => h) (Or.inl ⟨by rfl, ?_⟩) ?_; (· decide +kernel); (· decide +kernel); (· decide +kernel); (· (intro w; go_simp))) | (refine wpAny_take (i := 8) (v := .pointer (some ⟨R, 0, none⟩)) rfl ?_ ?_ ?_ (fun _ _ _ h => h) (Or.inl ⟨by rfl, ?_⟩) ?_; (· decide +kernel); (· decide +kernel); (· decide +kernel); (· (intro w; go_simp))) | (refine wpAny_take (i := 9) (v := .pointer (some ⟨R, 0, none⟩)) rfl ?_ ?_ ?_ (fun _ _ _ h => h) (Or.inl ⟨by rfl, ?_⟩) ?_; (· decide +kernel); (· decide +kernel); (· decide +kernel); (· (intro w; go_simp))) | (refine wpAny_take (i := 10) (v := .pointer (some ⟨R, 0, none⟩)) rfl ?_ ?_ ?_ (fun _ _ _ h => h) (Or.inl ⟨by rfl, ?_⟩) ?_; (· decide +kernel); (· decide +kernel); (· decide +kernel); (· (intro w; go_simp))) | (refine wpAny_take (i := 12) (v := .pointer (some ⟨R, 0, none⟩)) rfl ?_ ?_ ?_ (fun _ _ _ h => h) (Or.inl ⟨by rfl, ?_⟩) ?_; (· decide +kernel); (· decide +kernel); (· decide +kernel); (· (intro w; go_simp))) | (refine wpAny_take (i := 13) (v := .pointer (some ⟨R, 0, none⟩)) rfl ?_ ?_ ?_ (fun _ _ _ h => h) (Or.inl ⟨by rfl, ?_⟩) ?_; (· decide +kernel); (· decide +kernel); (· decide +kernel); (· (intro w; go_simp))) | (refine wpAny_take (i := 14) (v := .pointer (some ⟨R, 0, none⟩)) rfl ?_ ?_ ?_ (fun _ _ _ h => h) (Or.inl ⟨by rfl, ?_⟩) ?_; (· decide +kernel); (· decide +kernel); (· decide +kernel); (· (intro w; go_simp))) | (refine wpAny_take (i := 16) (v := .pointer (some ⟨R, 0, none⟩)) rfl ?_ ?_ ?_ (fun _ _ _ h => h) (Or.inl ⟨by rfl, ?_⟩) ?_; (· decide +kernel); (· decide +kernel); (· decide +kernel); (· (intro w; go_simp))) | (refine wpAny_take (i := 17) (v := .pointer (some ⟨R, 0, none⟩)) rfl ?_ ?_ ?_ (fun _ _ _ h => h) (Or.inl ⟨by rfl, ?_⟩) ?_; (· decide +kernel); (· decide +kernel); (· decide +kernel); (· (intro w; go_simp))) | (refine wpAny_take (i := 18) (v := .pointer (some ⟨R, 0, none⟩)) rfl ?_ ?_ ?_ (fun _ _ _ h => h) (Or.inl ⟨by rfl, ?_⟩) ?_; (· decide +kernel); (· decide +kernel); (· decide +kernel); (· (intro w; go_simp))))
            refine wpAny_ready (rs := [19]) (by decide +kernel) (by simp) ?_
            refine AllReady.cons rfl (fun K hK => ?_) AllReady.nil
            go_simp
            refine (rtext_any _ R T [.int .i64 0] bs4 false (by exact hrd4)).mono ?_
            rintro e w5 ⟨v5, x5, bs5, bad5, rfl, ⟨rfl, ht5⟩, hrd5, hg5, hl5, hh5⟩
            obtain ⟨hb5, C5⟩ := C4.step hh5.out
            subst hb5
            clear hh5
            have K5 : W0.grownBy w5 (some R) := grownBy_trans (by exact K4) hg5
            have q5 := K5.size
            have r5 := hrd5.lt
            have hB5 : Blk w5 w2.heap.size 55 [.int .i64 0, .int .i64 0, .int .i64 0, .int .i64 0, .string ⟨#[]⟩, .int .i64 0, .int .i64 0, .string ⟨#[]⟩, .slice none 0 0] := Blk.grown hB4 hg5 (by simp; omega)
            have k0 := hB5.cell 0
            have j0 := hB5.frozen 0
            have k1 := hB5.cell 1
            have j1 := hB5.frozen 1
            have k2 := hB5.cell 2
            have j2 := hB5.frozen 2
            have k3 := hB5.cell 3
            have j3 := hB5.frozen 3
            have k4 := hB5.cell 4
            have j4 := hB5.frozen 4
            have k5 := hB5.cell 5
            have j5 := hB5.frozen 5
            have k6 := hB5.cell 6
            have j6 := hB5.frozen 6
            have k7 := hB5.cell 7
            have j7 := hB5.frozen 7
            have k8 := hB5.cell 8
            have j8 := hB5.frozen 8
            have jl := hB5.lt
            simp only [List.getElem?_cons_succ, List.getElem?_cons_zero] at k0 k1 k2 k3 k4 k5 k6 k7 k8
            try dsimp only
            refine hK _ _ ?_
            clear hK K
            repeat (first | (refine wpAny_take (i := 20) (v := .agg #[.int .i64 x1, .int .i64 (x2 : Int), .int .i64 (x3 : Int), .int .i64 (x4 : Int), .string x5, .int .i64 0, .int .i64 0, .string ⟨#[]⟩, .slice none 0 0]) rfl ?_ ?_ ?_ (fun _ _ _ h => h) (Or.inl ⟨by rfl, ?_⟩) ?_; (· decide +kernel); (· decide +kernel); (· decide +kernel); (· (intro w; go_simp))))
            refine wpAny_ready (rs := [22]) (by decide +kernel) (by simp) ?_
            refine AllReady.cons rfl (fun K hK => ?_) AllReady.nil
            go_simp
            refine hK _ _ ?_
            clear hK K
            refine wpAny_done (by decide +kernel) ?_ _
            go_wp2_with (fail)
            go_meet
            have hz5 := hB0.grown K5 (by simp; omega)
            have hG5 := grownBy_trans hG0 K5
            exact midL_set hB5 (by omega) l1 ⟨hx1, hx2⟩ hn2 hn3 hn4 (by omega) hz5 hrd5 hG5 (by omega) C5
        · go_simp
          refine hK _ _ ?_
          clear hK K
          repeat (first | (refine wpAny_take (i := 0) (v := .pointer (some ⟨R, 0, none⟩)) rfl ?_ ?_ ?_ (fun _ _ _ h => h) (Or.inl ⟨by rfl, ?_⟩) ?_; (· decide +kernel); (· decide +kernel); (· decide +kernel); (· (intro w; go_simp))) | (refine wpAny_take (i := 1) (v := .pointer (some ⟨R, 0, none⟩)) rfl ?_ ?_ ?_ (fun _ _ _ h => h) (Or.inl ⟨by rfl, ?_⟩) ?_; (· decide +kernel); (· decide +kernel); (· decide +kernel); (· (intro w; go_simp))) | (refine wpAny_take (i := 2) (v := .pointer (some ⟨R, 0, none⟩)) rfl ?_ ?_ ?_ (fun _ _ _ h => h) (Or.inl ⟨by rfl, ?_⟩) ?_; (· decide +kernel); (· decide +kernel); (· decide +kernel); (· (intro w; go_simp))) | (refine wpAny_take (i := 4) (v := .pointer (some ⟨R, 0, none⟩)) rfl ?_ ?_ ?_ (fun _ _ _ h => h) (Or.inl ⟨by rfl, ?_⟩) ?_; (· decide +kernel); (· decide +kernel); (· decide +kernel); (· (intro w; go_simp))) | (refine wpAny_take (i := 5) (v := .pointer (some ⟨R, 0, none⟩)) rfl ?_ ?_ ?_ (fun _ _ _ h => h) (Or.inl ⟨by rfl, ?_⟩) ?_; (· decide +kernel); (· decide +kernel); (· decide +kernel); (· (intro w; go_simp))) | (refine wpAny_take (i := 6) (v := .pointer (some ⟨R, 0, none⟩)) rfl ?_ ?_ ?_ (fun _ _ _ h => h) (Or.inl ⟨by rfl, ?_⟩) ?_; (· decide +kernel); (· decide +kernel); (· decide +kernel); (· (intro w; go_simp))) | (refine wpAny_take (i := 8) (v := .pointer (some ⟨R, 0, none⟩)) rfl ?_ ?_ ?_ (fun _ _ _ h => h) (Or.inl ⟨by rfl, ?_⟩) ?_; (· decide +kernel); (· decide +kernel); (· decide +kernel); (· (intro w; go_simp))) | (refine wpAny_take (i := 9) (v := .pointer (some ⟨R, 0, none⟩)) rfl ?_ ?_ ?_ (fun _ _ _ h => h) (Or.inl ⟨by rfl, ?_⟩) ?_; (· decide +kernel); (· decide +kernel); (· decide +kernel); (· (intro w; go_simp))) | (refine wpAny_take (i := 10) (v := .pointer (some ⟨R, 0, none⟩)) rfl ?_ ?_ ?_ (fun _ _ _ h => h) (Or.inl ⟨by rfl, ?_⟩) ?_; (· decide +kernel); (· decide +kernel); (· decide +kernel); (· (intro w; go_simp))) | (refine wpAny_take (i := 12) (v := .pointer (some ⟨R, 0, none⟩)) rfl ?_ ?_ ?_ (fun _ _ _ h => h) (Or.inl ⟨by rfl, ?_⟩) ?_; (· decide +kernel); (· decide +kernel); (· decide +kernel); (· (intro w; go_simp))) | (refine wpAny_take (i := 13) (v := .pointer (some ⟨R, 0, none⟩)) rfl ?_ ?_ ?_ (fun _ _ _ h => h) (Or.inl ⟨by rfl, ?_⟩) ?_; (· decide +kernel); (· decide +kernel); (· decide +kernel); (· (intro w; go_simp))) | (refine wpAny_take (i := 14) (v := .pointer (some ⟨R, 0, none⟩)) rfl ?_ ?_ ?_ (fun _ _ _ h => h) (Or.inl ⟨by rfl, ?_⟩) ?_; (· decide +kernel); (· decide +kernel); (· decide +kernel); (· (intro w; go_simp))) | (refine wpAny_take (i := 16) (v := .pointer (some ⟨R, 0, none⟩)) rfl ?_ ?_ ?_ (fun _ _ _ h => h) (Or.inl ⟨by rfl, ?_⟩) ?_; (· decide +kernel); (· decide +kernel); (· decide +kernel); (· (intro w; go_simp))) | (refine wpAny_take (i := 17) (v := .pointer (some ⟨R, 0, none⟩)) rfl ?_ ?_ ?_ (fun _ _ _ h => h) (Or.inl ⟨by rfl, ?_⟩) ?_; (· decide +kernel); (· decide +kernel); (· decide +kernel); (· (intro w; go_simp))) | (refine wpAny_take (i := 18) (v := .pointer (some ⟨R, 0, none⟩)) rfl ?_ ?_ ?_ (fun _ _ _ h => h) (Or.inl ⟨by rfl, ?_⟩) ?_; (· decide +kernel); (· decide +kernel); (· decide +kernel); (· (intro w; go_simp))))
          refine wpAny_ready (rs := [7]) (by decide +kernel) (by simp) ?_
          refine AllReady.cons rfl (fun K hK => ?_) AllReady.nil
          go_simp
          refine (rnat_any _ R T [.int .i64 0] bs1 false (by exact hrd1.alloc _)).mono ?_
          rintro e w2 ⟨v2, x2, bs2, bad2, rfl, ⟨rfl, hn2⟩, hrd2, hg2, hl2, hh2⟩
          obtain ⟨hb2, C2⟩ := C1.step (lenI_on hh2.out)
          subst hb2
          clear hh2
          have K2 : W0.grownBy w2 (some R) := grownBy_trans (by exact (grownBy_alloc K1 _)) hg2
          have q2 := K2.size
          have r2 := hrd2.lt
          have hB2 : Blk w2 w1.heap.size 55 [.int .i64 0, .int .i64 0, .int .i64 0, .int .i64 0, .string ⟨#[]⟩, .int .i64 0, .int .i64 0, .string ⟨#[]⟩, .slice none 0 0] := Blk.grown (by exact ZZ.out w1) hg2 (by simp; omega)
          try dsimp only
          refine hK _ _ ?_
          clear hK K
          repeat (first | (refine wpAny_take (i := 0) (v := .pointer (some ⟨R, 0, none⟩)) rfl ?_ ?_ ?_ (fun _ _ _ h => h) (Or.inl ⟨by rfl, ?_⟩) ?_; (· decide +kernel); (· decide +kernel); (· decide +kernel); (· (intro w; go_simp))) | (refine wpAny_take (i := 1) (v := .pointer (some ⟨R, 0, none⟩)) rfl ?_ ?_ ?_ (fun _ _ _ h => h) (Or.inl ⟨by rfl, ?_⟩) ?_; (· decide +kernel); (· decide +kernel); (· decide +kernel); (· (intro w; go_simp))) | (refine wpAny_take (i := 2) (v := .pointer (some ⟨R, 0, none⟩)) rfl ?_ ?_ ?_ (fun _ _ _ h => h) (Or.inl ⟨by rfl, ?_⟩) ?_; (· decide +kernel); (· decide +kernel); (· decide +kernel); (· (intro w; go_simp))) | (refine wpAny_take (i := 4) (v := .pointer (some ⟨R, 0, none⟩)) rfl ?_ ?_ ?_ (fun _ _ _ h => h) (Or.inl ⟨by rfl, ?_⟩) ?_; (· decide +kernel); (· decide +kernel); (· decide +kernel); (· (intro w; go_simp))) | (refine wpAny_take (i := 5) (v := .pointer (some ⟨R, 0, none⟩)) rfl ?_ ?_ ?_ (fun _ _ _ h => h) (Or.inl ⟨by rfl, ?_⟩) ?_; (· decide +kernel); (· decide +kernel); (· decide +kernel); (· (intro w; go_simp))) | (refine wpAny_take (i := 6) (v := .pointer (some ⟨R, 0, none⟩)) rfl ?_ ?_ ?_ (fun _ _ _ h => h) (Or.inl ⟨by rfl, ?_⟩) ?_; (· decide +kernel); (· decide +kernel); (· decide +kernel); (· (intro w; go_simp))) | (refine wpAny_take (i := 8) (v := .pointer (some ⟨R, 0, none⟩)) rfl ?_ ?_ ?_ (fun _ _ _ h => h) (Or.inl ⟨by rfl, ?_⟩) ?_; (· decide +kernel); (· decide +kernel); (· decide +kernel); (· (intro w; go_simp))) | (refine wpAny_take (i := 9) (v := .pointer (some ⟨R, 0, none⟩)) rfl ?_ ?_ ?_ (fun _ _ _ h => h) (Or.inl ⟨by rfl, ?_⟩) ?_; (· decide +kernel); (· decide +kernel); (· decide +kernel); (· (intro w; go_simp))) | (refine wpAny_take (i := 10) (v := .pointer (some ⟨R, 0, none⟩)) rfl ?_ ?_ ?_ (fun _ _ _ h => h) (Or.inl ⟨by rfl, ?_⟩) ?_; (· decide +kernel); (· decide +kernel); (· decide +kernel); (· (intro w; go_simp))) | (refine wpAny_take (i := 12) (v := .pointer (some ⟨R, 0, none⟩)) rfl ?_ ?_ ?_ (fun _ _ _ h => h) (Or.inl ⟨by rfl, ?_⟩) ?_; (· decide +kernel); (· decide +kernel); (· decide +kernel); (· (intro w; go_simp))) | (refine wpAny_take (i := 13) (v := .pointer (some ⟨R, 0, none⟩)) rfl ?_ ?_ ?_ (fun _ _ _ h => h) (Or.inl ⟨by rfl, ?_⟩) ?_; (· decide +kernel); (· decide +kernel); (· decide +kernel); (· (intro w; go_simp))) | (refine wpAny_take (i := 14) (v := .pointer (some ⟨R, 0, none⟩)) rfl ?_ ?_ ?_ (fun _ _ _ h => h) (Or.inl ⟨by rfl, ?_⟩) ?_; (· decide +kernel); (· decide +kernel); (· decide +kernel); (· (intro w; go_simp))) | (refine wpAny_take (i := 16) (v := .pointer (some ⟨R, 0, none⟩)) rfl ?_ ?_ ?_ (fun _ _ _ h => h) (Or.inl ⟨by rfl, ?_⟩) ?_; (· decide +kernel); (· decide +kernel); (· decide +kernel); (· (intro w; go_simp))) | (refine wpAny_take (i := 17) (v := .pointer (some ⟨R, 0, none⟩)) rfl ?_ ?_ ?_ (fun _ _ _ h => h) (Or.inl ⟨by rfl, ?_⟩) ?_; (· decide +kernel); (· decide +kernel); (· decide +kernel); (· (intro w; go_simp))) | (refine wpAny_take (i := 18) (v := .pointer (some ⟨R, 0, none⟩)) rfl ?_ ?_ ?_ (fun _ _ _ h => h) (Or.inl ⟨by rfl, ?_⟩) ?_; (· decide +kernel); (· decide +kernel); (· decide +kernel); (· (intro w; go_simp))))
          refine wpAny_ready (rs := [11]) (by decide +kernel) (by simp) ?_
          refine AllReady.cons rfl (fun K hK => ?_) AllReady.nil
          go_simp
          refine (rnat_any _ R T [.int .i64 0] bs2 false (by exact hrd2)).mono ?_
          rintro e w3 ⟨v3, x3, bs3, bad3, rfl, ⟨rfl, hn3⟩, hrd3, hg3, hl3, hh3⟩
          obtain ⟨hb3, C3⟩ := C2.step (lenI_on hh3.out)
          subst hb3
          clear hh3
          have K3 : W0.grownBy w3 (some R) := grownBy_trans (by exact K2) hg3
          have q3 := K3.size
          have r3 := hrd3.lt
          have hB3 : Blk w3 w1.heap.size 55 [.int .i64 0, .int .i64 0, .int .i64 0, .int .i64 0, .string ⟨#[]⟩, .int .i64 0, .int .i64 0, .string ⟨#[]⟩, .slice none 0 0] := Blk.grown hB2 hg3 (by simp; omega)
          try dsimp only
          refine hK _ _ ?_
          clear hK K
          repeat (first | (refine wpAny_take (i := 0) (v := .pointer (some ⟨R, 0, none⟩)) rfl ?_ ?_ ?_ (fun _ _ _ h => h) (Or.inl ⟨by rfl, ?_⟩) ?_; (· decide +kernel); (· decide +kernel); (· decide +kernel); (· (intro w; go_simp))) | (refine wpAny_take (i := 1) (v := .pointer (some ⟨R, 0, none⟩)) rfl ?_ ?_ ?_ (fun _ _ _ h => h) (Or.inl ⟨by rfl, ?_⟩) ?_; (· decide +kernel); (· decide +kernel); (· decide +kernel); (· (intro w; go_simp))) | (refine wpAny_take (i := 2) (v := .pointer (some ⟨R, 0, none⟩)) rfl ?_ ?_ ?_ (fun _ _ _ h => h) (Or.inl ⟨by rfl, ?_⟩) ?_; (· decide +kernel); (· decide +kernel); (· decide +kernel); (· (intro w; go_simp))) | (refine wpAny_take (i := 4) (v := .pointer (some ⟨R, 0, none⟩)) rfl ?_ ?_ ?_ (fun _ _ _ h => h) (Or.inl ⟨by rfl, ?_⟩) ?_; (· decide +kernel); (· decide +kernel); (· decide +kernel); (· (intro w; go_simp))) | (refine wpAny_take (i := 5) (v := .pointer (some ⟨R, 0, none⟩)) rfl ?_ ?_ ?_ (fun _ _ _ h => h) (Or.inl ⟨by rfl, ?_⟩) ?_; (· decide +kernel); (· decide +kernel); (· decide +kernel); (· (intro w; go_simp))) | (refine wpAny_take (i := 6) (v := .pointer (some ⟨R, 0, none⟩)) rfl ?_ ?_ ?_ (fun _ _ _ h => h) (Or.inl ⟨by rfl, ?_⟩) ?_; (· decide +kernel); (· decide +kernel); (· decide +kernel); (· (intro w; go_simp))) | (refine wpAny_take (i := 8) (v := .pointer (some ⟨R, 0, none⟩)) rfl ?_ ?_ ?_ (fun _ _ _ h => h) (Or.inl ⟨by rfl, ?_⟩) ?_; (· decide +kernel); (· decide +kernel); (· decide +kernel); (· (intro w; go_simp))) | (refine wpAny_take (i := 9) (v := .pointer (some ⟨R, 0, none⟩)) rfl ?_ ?_ ?_ (fun _ _ _ h => h) (Or.inl ⟨by rfl, ?_⟩) ?_; (· decide +kernel); (· decide +kernel); (· decide +kernel); (· (intro w; go_simp))) | (refine wpAny_take (i := 10) (v := .pointer (some ⟨R, 0, none⟩)) rfl ?_ ?_ ?_ (fun _ _ _ h => h) (Or.inl ⟨by rfl, ?_⟩) ?_; (· decide +kernel); (· decide +kernel); (· decide +kernel); (· (intro w; go_simp))) | (refine wpAny_take (i := 12) (v := .pointer (some ⟨R, 0, none⟩)) rfl ?_ ?_ ?_ (fun _ _ _ h => h) (Or.inl ⟨by rfl, ?_⟩) ?_; (· decide +kernel); (· decide +kernel); (· decide +kernel); (· (intro w; go_simp))) | (refine wpAny_take (i := 13) (v := .pointer (some ⟨R, 0, none⟩)) rfl ?_ ?_ ?_ (fun _ _ _ h => h) (Or.inl ⟨by rfl, ?_⟩) ?_; (· decide +kernel); (· decide +kernel); (· decide +kernel); (· (intro w; go_simp))) | (refine wpAny_take (i := 14) (v := .pointer (some ⟨R, 0, none⟩)) rfl ?_ ?_ ?_ (fun _ _ _ h => h) (Or.inl ⟨by rfl, ?_⟩) ?_; (· decide +kernel); (· decide +kernel); (· decide +kernel); (· (intro w; go_simp))) | (refine wpAny_take (i := 16) (v := .pointer (some ⟨R, 0, none⟩)) rfl ?_ ?_ ?_ (fun _ _ _ h => h) (Or.inl ⟨by rfl, ?_⟩) ?_; (· decide +kernel); (· decide +kernel); (· decide +kernel); (· (intro w; go_simp))) | (refine wpAny_take (i := 17) (v := .pointer (some ⟨R, 0, none⟩)) rfl ?_ ?_ ?_ (fun _ _ _ h => h) (Or.inl ⟨by rfl, ?_⟩) ?_; (· decide +kernel); (· decide +kernel); (· decide +kernel); (· (intro w; go_simp))) | (refine wpAny_take (i := 18) (v := .pointer (some ⟨R, 0, none⟩)) rfl ?_ ?_ ?_ (fun _ _ _ h => h) (Or.inl ⟨by rfl, ?_⟩) ?_; (· decide +kernel); (· decide +kernel); (· decide +kernel); (· (intro w; go_simp))))
          refine wpAny_ready (rs := [15]) (by decide +kernel) (by simp) ?_
          refine AllReady.cons rfl (fun K hK => ?_) AllReady.nil
          go_simp
          refine (rnat_any _ R T [.int .i64 0] bs3 false (by exact hrd3)).mono ?_
          rintro e w4 ⟨v4, x4, bs4, bad4, rfl, ⟨rfl, hn4⟩, hrd4, hg4, hl4, hh4⟩
          obtain ⟨hb4, C4⟩ := C3.step (lenI_on hh4.out)
          subst hb4
          clear hh4
          have K4 : W0.grownBy w4 (some R) := grownBy_trans (by exact K3) hg4
          have q4 := K4.size
          have r4 := hrd4.lt
          have hB4 : Blk w4 w1.heap.size 55 [.int .i64 0, .int .i64 0, .int .i64 0, .int .i64 0, .string ⟨#[]⟩, .int .i64 0, .int .i64 0, .string ⟨#[]⟩, .slice none 0 0] := Blk.grown hB3 hg4 (by simp; omega)
          try dsimp only
          refine hK _ _ ?_
          clear hK K
          repeat (first | (refine wpAny_take (i := 0) (v := .pointer (some ⟨R, 0, none⟩)) rfl ?_ ?_ ?_ (fun _ _ _ h => h) (Or.inl ⟨by rfl, ?_⟩) ?_; (· decide +kernel); (· decide +kernel); (· decide +kernel); (· (intro w; go_simp))) | (refine wpAny_take (i := 1) (v := .pointer (some ⟨R, 0, none⟩)) rfl ?_ ?_ ?_ (fun _ _ _ h => h) (Or.inl ⟨by rfl, ?_⟩) ?_; (· decide +kernel); (· decide +kernel); (· decide +kernel); (· (intro w; go_simp))) | (refine wpAny_take (i := 2) (v := .pointer (some ⟨R, 0, none⟩)) rfl ?_ ?_ ?_ (fun _ _ _ h => h) (Or.inl ⟨by rfl, ?_⟩) ?_; (· decide +kernel); (· decide +kernel); (· decide +kernel); (· (intro w; go_simp))) | (refine wpAny_take (i := 4) (v := .pointer (some ⟨R, 0, none⟩)) rfl ?_ ?_ ?_ (fun _ _ _ h => h) (Or.inl ⟨by rfl, ?_⟩) ?_; (· decide +kernel); (· decide +kernel); (· decide +kernel); (· (intro w; go_simp))) | (refine wpAny_take (i := 5) (v := .pointer (some ⟨R, 0, none⟩)) rfl ?_ ?_ ?_ (fun _ _ _ h => h) (Or.inl ⟨by rfl, ?_⟩) ?_; (· decide +kernel); (· decide +kernel); (· decide +kernel); (· (intro w; go_simp))) | (refine wpAny_take (i := 6) (v := .pointer (some ⟨R, 0, none⟩)) rfl ?_ ?_ ?_ (fun _ _ _ h => h) (Or.inl ⟨by rfl, ?_⟩) ?_; (· decide +kernel); (· decide +kernel); (· decide +kernel); (· (intro w; go_simp))) | (refine wpAny_take (i := 8) (v := .pointer (some ⟨R, 0, none⟩)) rfl ?_ ?_ ?_ (fun _ _ _ h => h) (Or.inl ⟨by rfl, ?_⟩) ?_; (· decide +kernel); (· decide +kernel); (· decide +kernel); (· (intro w; go_simp))) | (refine wpAny_take (i := 9) (v := .pointer (some ⟨R, 0, none⟩)) rfl ?_ ?_ ?_ (fun _ _ _ h => h) (Or.inl ⟨by rfl, ?_⟩) ?_; (· decide +kernel); (· decide +kernel); (· decide +kernel); (· (intro w; go_simp))) | (refine wpAny_take (i := 10) (v := .pointer (some ⟨R, 0, none⟩)) rfl ?_ ?_ ?_ (fun _ _ _ h => h) (Or.inl ⟨by rfl, ?_⟩) ?_; (· decide +kernel); (· decide +kernel); (· decide +kernel); (· (intro w; go_simp))) | (refine wpAny_take (i := 12) (v := .pointer (some ⟨R, 0, none⟩)) rfl ?_ ?_ ?_ (fun _ _ _ h => h) (Or.inl ⟨by rfl, ?_⟩) ?_; (· decide +kernel); (· decide +kernel); (· decide +kernel); (· (intro w; go_simp))) | (refine wpAny_take (i := 13) (v := .pointer (some ⟨R, 0, none⟩)) rfl ?_ ?_ ?_ (fun _ _ _ h => h) (Or.inl ⟨by rfl, ?_⟩) ?_; (· decide +kernel); (· decide +kernel); (· decide +kernel); (· (intro w; go_simp))) | (refine wpAny_take (i := 14) (v := .pointer (some ⟨R, 0, none⟩)) rfl ?_ ?_ ?_ (fun _ _ _ h => h) (Or.inl ⟨by rfl, ?_⟩) ?_; (· decide +kernel); (· decide +kernel); (· decide +kernel); (· (intro w; go_simp))) | (refine wpAny_take (i := 16) (v := .pointer (some ⟨R, 0, none⟩)) rfl ?_ ?_ ?_ (fun _ _ _ h => h) (Or.inl ⟨by rfl, ?_⟩) ?_; (· decide +kernel); (· decide +kernel); (· decide +kernel); (· (intro w; go_simp))) | (refine wpAny_take (i := 17) (v := .pointer (some ⟨R, 0, none⟩)) rfl ?_ ?_ ?_ (fun _ _ _ h => h) (Or.inl ⟨by rfl, ?_⟩) ?_; (· decide +kernel); (· decide +kernel); (· decide +kernel); (· (intro w; go_simp))) | (refine wpAny_take (i := 18) (v := .pointer (some ⟨R, 0, none⟩)) rfl ?_ ?_ ?_ (fun _ _ _ h => h) (Or.inl ⟨by rfl, ?_⟩) ?_; (· decide +kernel); (· decide +kernel); (· decide +kernel); (· (intro w; go_simp))))
          refine wpAny_ready (rs := [19]) (by decide +kernel) (by simp) ?_
          refine AllReady.cons rfl (fun K hK => ?_) AllReady.nil
          go_simp
          refine (rtext_any _ R T [.int .i64 0] bs4 false (by exact hrd4)).mono ?_
          rintro e w5 ⟨v5, x5, bs5, bad5, rfl, ⟨rfl, ht5⟩, hrd5, hg5, hl5, hh5⟩
          obtain ⟨hb5, C5⟩ := C4.step hh5.out
          subst hb5
          clear hh5
          have K5 : W0.grownBy w5 (some R) := grownBy_trans (by exact K4) hg5
          have q5 := K5.size
          have r5 := hrd5.lt
          have hB5 : Blk w5 w1.heap.size 55 [.int .i64 0, .int .i64 0, .int .i64 0, .int .i64 0, .string ⟨#[]⟩, .int .i64 0, .int .i64 0, .string ⟨#[]⟩, .slice none 0 0] := Blk.grown hB4 hg5 (by simp; omega)
          have k0 := hB5.cell 0
          have j0 := hB5.frozen 0
          have k1 := hB5.cell 1
          have j1 := hB5.frozen 1
          have k2 := hB5.cell 2
          have j2 := hB5.frozen 2
          have k3 := hB5.cell 3
          have j3 := hB5.frozen 3
          have k4 := hB5.cell 4
          have j4 := hB5.frozen 4
          have k5 := hB5.cell 5
          have j5 := hB5.frozen 5
          have k6 := hB5.cell 6
          have j6 := hB5.frozen 6
          have k7 := hB5.cell 7
          have j7 := hB5.frozen 7
          have k8 := hB5.cell 8
          have j8 := hB5.frozen 8
          have jl := hB5.lt
          simp only [List.getElem?_cons_succ, List.getElem?_cons_zero] at k0 k1 k2 k3 k4 k5 k6 k7 k8
          try dsimp only
          refine hK _ _ ?_
          clear hK K
          repeat (first | (refine wpAny_take (i := 20) (v := .agg #[.int .i64 x1, .int .i64 (x2 : Int), .int .i64 (x3 : Int), .int .i64 (x4 : Int), .string x5, .int .i64 0, .int .i64 0, .string ⟨#[]⟩, .slice none 0 0]) rfl ?_ ?_ ?_ (fun _ _ _ h => h) (Or.inl ⟨by rfl, ?_⟩) ?_; (· decide +kernel); (· decide +kernel); (· decide +kernel); (· (intro w; go_simp))))
          refine wpAny_ready (rs := [22]) (by decide +kernel) (by simp) ?_
          refine AllReady.cons rfl (fun K hK => ?_) AllReady.nil
          go_simp
          refine hK _ _ ?_
          clear hK K
          refine wpAny_done (by decide +kernel) ?_ _
          go_wp2_with (fail)
          go_meet
          have hz5 := hB0.grown K5 (by simp; omega)
          have hG5 := grownBy_trans hG0 K5
          exact midL_set hB5 (by omega) l1 ⟨hx1, hx2⟩ hn2 hn3 hn4 (by omega) hz5 hrd5 hG5 (by omega) C5
      · go_simp
        refine hK _ _ ?_
        clear hK K
        repeat (first | (refine wpAny_take (i := 0) (v := .pointer (some ⟨R, 0, none⟩)) rfl ?_ ?_ ?_ (fun _ _ _ h => h) (Or.inl ⟨by rfl, ?_⟩) ?_; (· decide +kernel); (· decide +kernel); (· decide +kernel); (· (intro w; go_simp))) | (refine wpAny_take (i := 1) (v := .pointer (some ⟨R, 0, none⟩)) rfl ?_ ?_ ?_ (fun _ _ _ h => h) (Or.inl ⟨by rfl, ?_⟩) ?_; (· decide +kernel); (· decide +kernel); (· decide +kernel); (· (intro w; go_simp))) | (refine wpAny_take (i := 2) (v := .pointer (some ⟨R, 0, none⟩)) rfl ?_ ?_ ?_ (fun _ _ _ h => h) (Or.inl ⟨by rfl, ?_⟩) ?_; (· decide +kernel); (· decide +kernel); (· decide +kernel); (· (intro w; go_simp))) | (refine wpAny_take (i := 4) (v := .pointer (some ⟨R, 0, none⟩)) rfl ?_ ?_ ?_ (fun _ _ _ h => h) (Or.inl ⟨by rfl, ?_⟩) ?_; (· decide +kernel); (· decide +kernel); (· decide +kernel); (· (intro w; go_simp))) | (refine wpAny_take (i := 5) (v := .pointer (some ⟨R, 0, none⟩)) rfl ?_ ?_ ?_ (fun _ _ _ h => h) (Or.inl ⟨by rfl, ?_⟩) ?_; (· decide +kernel); (· decide +kernel); (· decide +kernel); (· (intro w; go_simp))) | (refine wpAny_take (i := 6) (v := .pointer (some ⟨R, 0, none⟩)) rfl ?_ ?_ ?_ (fun _ _ _ h => h) (Or.inl ⟨by rfl, ?_⟩) ?_; (· decide +kernel); (· decide +kernel); (· decide +kernel); (· (intro w; go_simp))) | (refine wpAny_take (i := 8) (v := .pointer (some ⟨R, 0, none⟩)) rfl ?_ ?_ ?_ (fun _ _ _ h => h) (Or.inl ⟨by rfl, ?_⟩) ?_; (· decide +kernel); (· decide +kernel); (· decide +kernel); (· (intro w; go_simp))) | (refine wpAny_take (i := 9) (v := .pointer (some ⟨R, 0, none⟩)) rfl ?_ ?_ ?_ (fun _ _ _ h => h) (Or.inl ⟨by rfl, ?_⟩) ?_; (· decide +kernel); (· decide +kernel); (· decide +kernel); (· (intro w; go_simp))) | (refine wpAny_take (i := 10) (v := .pointer (some ⟨R, 0, none⟩)) rfl ?_ ?_ ?_ (fun _ _ _ h => h) (Or.inl ⟨by rfl, ?_⟩) ?_; (· decide +kernel); (· decide +kernel); (· decide +kernel); (· (intro w; go_simp))) | (refine wpAny_take (i := 12) (v := .pointer (some ⟨R, 0, none⟩)) rfl ?_ ?_ ?_ (fun _ _ _ h => h) (Or.inl ⟨by rfl, ?_⟩) ?_; (· decide +kernel); (· decide +kernel); (· decide +kernel); (· (intro w; go_simp))) | (refine wpAny_take (i := 13) (v := .pointer (some ⟨R, 0, none⟩)) rfl ?_ ?_ ?_ (fun _ _ _ h => h) (Or.inl ⟨by rfl, ?_⟩) ?_; (· decide +kernel); (· decide +kernel); (· decide +kernel); (· (intro w; go_simp))) | (refine wpAny_take (i := 14) (v := .pointer (some ⟨R, 0, none⟩)) rfl ?_ ?_ ?_ (fun _ _ _ h => h) (Or.inl ⟨by rfl, ?_⟩) ?_; (· decide +kernel); (· decide +kernel); (· decide +kernel); (· (intro w; go_simp))) | (refine wpAny_take (i := 16) (v := .pointer (some ⟨R, 0, none⟩)) rfl ?_ ?_ ?_ (fun _ _ _ h => h) (Or.inl ⟨by rfl, ?_⟩) ?_; (· decide +kernel); (· decide +kernel); (· decide +kernel); (· (intro w; go_simp))) | (refine wpAny_take (i := 17) (v := .pointer (some ⟨R, 0, none⟩)) rfl ?_ ?_ ?_ (fun _ _ _ h => h) (Or.inl ⟨by rfl, ?_⟩) ?_; (· decide +kernel); (· decide +kernel); (· decide +kernel); (· (intro w; go_simp))) | (refine wpAny_take (i := 18) (v := .pointer (some ⟨R, 0, none⟩)) rfl ?_ ?_ ?_ (fun _ _ _ h => h) (Or.inl ⟨by rfl, ?_⟩) ?_; (· decide +kernel); (· decide +kernel); (· decide +kernel); (· (intro w; go_simp))))
        refine wpAny_ready (rs := [3]) (by decide +kernel) (by simp) ?_
        refine AllReady.cons rfl (fun K hK => ?_) AllReady.nil
        go_simp
        refine (byte_any _ R T [.int .i64 0] bs false (by exact hrd0.alloc _)).mono ?_
        rintro e w1 ⟨v1, x1, bs1, bad1, rfl, ⟨rfl, hx1, hx2⟩, hrd1, hg1, hl1, hh1⟩
        obtain ⟨hb1, C1⟩ := C0.step hh1.out
        subst hb1
        clear hh1
        have K1 : W0.grownBy w1 (some R) := grownBy_trans (by exact (grownBy_alloc (grownBy_drew (World.grownBy.refl W0 _)) _)) hg1
        have q1 := K1.size
        have r1 := hrd1.lt
        have hB1 : Blk w1 W0.heap.size 55 [.int .i64 0, .int .i64 0, .int .i64 0, .int .i64 0, .string ⟨#[]⟩, .int .i64 0, .int .i64 0, .string ⟨#[]⟩, .slice none 0 0] := Blk.grown (by exact ZZ.out W0) hg1 (by simp; omega)
        try dsimp only
        refine hK _ _ ?_
        clear hK K
        repeat (first | (refine wpAny_take (i := 0) (v := .pointer (some ⟨R, 0, none⟩)) rfl ?_ ?_ ?_ (fun _ _ _ h => h) (Or.inl ⟨by rfl, ?_⟩) ?_; (· decide +kernel); (· decide +kernel); (· decide +kernel); (· (intro w; go_simp))) | (refine wpAny_take (i := 1) (v := .pointer (some ⟨R, 0, none⟩)) rfl ?_ ?_ ?_ (fun _ _ _ h => h) (Or.inl ⟨by rfl, ?_⟩) ?_; (· decide +kernel); (· decide +kernel); (· decide +kernel); (· (intro w; go_simp))) | (refine wpAny_take (i := 2) (v := .pointer (some ⟨R, 0, none⟩)) rfl ?_ ?_ ?_ (fun _ _ _ h => h) (Or.inl ⟨by rfl, ?_⟩) ?_; (· decide +kernel); (· decide +kernel); (· decide +kernel); (· (intro w; go_simp))) | (refine wpAny_take (i := 4) (v := .pointer (some ⟨R, 0, none⟩)) rfl ?_ ?_ ?_ (fun _ _ _ h => h) (Or.inl ⟨by rfl, ?_⟩) ?_; (· decide +kernel); (· decide +kernel); (· decide +kernel); (· (intro w; go_simp))) | (refine wpAny_take (i := 5) (v := .pointer (some ⟨R, 0, none⟩)) rfl ?_ ?_ ?_ (fun _ _ _ h => h) (Or.inl ⟨by rfl, ?_⟩) ?_; (· decide +kernel); (· decide +kernel); (· decide +kernel); (· (intro w; go_simp))) | (refine wpAny_take (i := 6) (v := .pointer (some ⟨R, 0, none⟩)) rfl ?_ ?_ ?_ (fun _ _ _ h => h) (Or.inl ⟨by rfl, ?_⟩) ?_; (· decide +kernel); (· decide +kernel); (· decide +kernel); (· (intro w; go_simp))) | (refine wpAny_take (i := 8) (v := .pointer (some ⟨R, 0, none⟩)) rfl ?_ ?_ ?_ (fun _ _ _ h => h) (Or.inl ⟨by rfl, ?_⟩) ?_; (· decide +kernel); (· decide +kernel); (· decide +kernel); (· (intro w; go_simp))) | (refine wpAny_take (i := 9) (v := .pointer (some ⟨R, 0, none⟩)) rfl ?_ ?_ ?_ (fun _ _ _ h => h) (Or.inl ⟨by rfl, ?_⟩) ?_; (· decide +kernel); (· decide +kernel); (· decide +kernel); (· (intro w; go_simp))) | (refine wpAny_take (i := 10) (v := .pointer (some ⟨R, 0, none⟩)) rfl ?_ ?_ ?_ (fun _ _ _ h => h) (Or.inl ⟨by rfl, ?_⟩) ?_; (· decide +kernel); (· decide +kernel); (· decide +kernel); (· (intro w; go_simp))) | (refine wpAny_take (i := 12) (v := .pointer (some ⟨R, 0, none⟩)) rfl ?_ ?_ ?_ (fun _ _ _ h => h) (Or.inl ⟨by rfl, ?_⟩) ?_; (· decide +kernel); (· decide +kernel); (· decide +kernel); (· (intro w; go_simp))) | (refine wpAny_take (i := 13) (v := .pointer (some ⟨R, 0, none⟩)) rfl ?_ ?_ ?_ (fun _ _ _ h => h) (Or.inl ⟨by rfl, ?_⟩) ?_; (· decide +kernel); (· decide +kernel); (· decide +kernel); (· (intro w; go_simp))) | (refine wpAny_take (i := 14) (v := .pointer (some ⟨R, 0, none⟩)) rfl ?_ ?_ ?_ (fun _ _ _ h => h) (Or.inl ⟨by rfl, ?_⟩) ?_; (· decide +kernel); (· decide +kernel); (· decide +kernel); (· (intro w; go_simp))) | (refine wpAny_take (i := 16) (v := .pointer (some ⟨R, 0, none⟩)) rfl ?_ ?_ ?_ (fun _ _ _ h => h) (Or.inl ⟨by rfl, ?_⟩) ?_; (· decide +kernel); (· decide +kernel); (· decide +kernel); (· (intro w; go_simp))) | (refine wpAny_take (i := 17) (v := .pointer (some ⟨R, 0, none⟩)) rfl ?_ ?_ ?_ (fun _ _ _ h => h) (Or.inl ⟨by rfl, ?_⟩) ?_; (· decide +kernel); (· decide +kernel); (· decide +kernel); (· (intro w; go_simp))) | (refine wpAny_take (i := 18) (v := .pointer (some ⟨R, 0, none⟩)) rfl ?_ ?_ ?_ (fun _ _ _ h => h) (Or.inl ⟨by rfl, ?_⟩) ?_; (· decide +kernel); (· decide +kernel); (· decide +kernel); (· (intro w; go_simp))))
        refine wpAny_ready (rs := [7]) (by decide +kernel) (by simp) ?_
        refine AllReady.cons rfl (fun K hK => ?_) AllReady.nil
        go_simp
        refine (rnat_any _ R T [.int .i64 0] bs1 false (by exact hrd1)).mono ?_
        rintro e w2 ⟨v2, x2, bs2, bad2, rfl, ⟨rfl, hn2⟩, hrd2, hg2, hl2, hh2⟩
        obtain ⟨hb2, C2⟩ := C1.step (lenI_on hh2.out)
        subst hb2
        clear hh2
        have K2 : W0.grownBy w2 (some R) := grownBy_trans (by exact K1) hg2
        have q2 := K2.size
        have r2 := hrd2.lt
        have hB2 : Blk w2 W0.heap.size 55 [.int .i64 0, .int .i64 0, .int .i64 0, .int .i64 0, .string ⟨#[]⟩, .int .i64 0, .int .i64 0, .string ⟨#[]⟩, .slice none 0 0] := Blk.grown hB1 hg2 (by simp; omega)
        try dsimp only
        refine hK _ _ ?_
        clear hK K
        repeat (first | (refine wpAny_take (i := 0) (v := .pointer (some ⟨R, 0, none⟩)) rfl ?_ ?_ ?_ (fun _ _ _ h => h) (Or.inl ⟨by rfl, ?_⟩) ?_; (· decide +kernel); (· decide +kernel); (· decide +kernel); (· (intro w; go_simp))) | (refine wpAny_take (i := 1) (v := .pointer (some ⟨R, 0, none⟩)) rfl ?_ ?_ ?_ (fun _ _ _ h => h) (Or.inl ⟨by rfl, ?_⟩) ?_; (· decide +kernel); (· decide +kernel); (· decide +kernel); (· (intro w; go_simp))) | (refine wpAny_take (i := 2) (v := .pointer (some ⟨R, 0, none⟩)) rfl ?_ ?_ ?_ (fun _ _ _ h => h) (Or.inl ⟨by rfl, ?_⟩) ?_; (· decide +kernel); (· decide +kernel); (· decide +kernel); (· (intro w; go_simp))) | (refine wpAny_take (i := 4) (v := .pointer (some ⟨R, 0, none⟩)) rfl ?_ ?_ ?_ (fun _ _ _ h => h) (Or.inl ⟨by rfl, ?_⟩) ?_; (· decide +kernel); (· decide +kernel); (· decide +kernel); (· (intro w; go_simp))) | (refine wpAny_take (i := 5) (v := .pointer (some ⟨R, 0, none⟩)) rfl ?_ ?_ ?_ (fun _ _ _ h => h) (Or.inl ⟨by rfl, ?_⟩) ?_; (· decide +kernel); (· decide +kernel); (· decide +kernel); (· (intro w; go_simp))) | (refine wpAny_take (i := 6) (v := .pointer (some ⟨R, 0, none⟩)) rfl ?_ ?_ ?_ (fun _ _ _ h => h) (Or.inl ⟨by rfl, ?_⟩) ?_; (· decide +kernel); (· decide +kernel); (· decide +kernel); (· (intro w; go_simp))) | (refine wpAny_take (i := 8) (v := .pointer (some ⟨R, 0, none⟩)) rfl ?_ ?_ ?_ (fun _ _ _ h => h) (Or.inl ⟨by rfl, ?_⟩) ?_; (· decide +kernel); (· decide +kernel); (· decide +kernel); (· (intro w; go_simp))) | (refine wpAny_take (i := 9) (v := .pointer (some ⟨R, 0, none⟩)) rfl ?_ ?_ ?_ (fun _ _ _ h => h) (Or.inl ⟨by rfl, ?_⟩) ?_; (· decide +kernel); (· decide +kernel); (· decide +kernel); (· (intro w; go_simp))) | (refine wpAny_take (i := 10) (v := .pointer (some ⟨R, 0, none⟩)) rfl ?_ ?_ ?_ (fun _ _ _ h => h) (Or.inl ⟨by rfl, ?_⟩) ?_; (· decide +kernel); (· decide +kernel); (· decide +kernel); (· (intro w; go_simp))) | (refine wpAny_take (i := 12) (v := .pointer (some ⟨R, 0, none⟩)) rfl ?_ ?_ ?_ (fun _ _ _ h => h) (Or.inl ⟨by rfl, ?_⟩) ?_; (· decide +kernel); (· decide +kernel); (· decide +kernel); (· (intro w; go_simp))) | (refine wpAny_take (i := 13) (v := .pointer (some ⟨R, 0, none⟩)) rfl ?_ ?_ ?_ (fun _ _ _ h => h) (Or.inl ⟨by rfl, ?_⟩) ?_; (· decide +kernel); (· decide +kernel); (· decide +kernel); (· (intro w; go_simp))) | (refine wpAny_take (i := 14) (v := .pointer (some ⟨R, 0, none⟩)) rfl ?_ ?_ ?_ (fun _ _ _ h => h) (Or.inl ⟨by rfl, ?_⟩) ?_; (· decide +kernel); (· decide +kernel); (· decide +kernel); (· (intro w; go_simp))) | (refine wpAny_take (i := 16) (v := .pointer (some ⟨R, 0, none⟩)) rfl ?_ ?_ ?_ (fun _ _ _ h => h) (Or.inl ⟨by rfl, ?_⟩) ?_; (· decide +kernel); (· decide +kernel); (· decide +kernel); (· (intro w; go_simp))) | (refine wpAny_take (i := 17) (v := .pointer (some ⟨R, 0, none⟩)) rfl ?_ ?_ ?_ (fun _ _ _ h => h) (Or.inl ⟨by rfl, ?_⟩) ?_; (· decide +kernel); (· decide +kernel); (· decide +kernel); (· (intro w; go_simp))) | (refine wpAny_take (i := 18) (v := .pointer (some ⟨R, 0, none⟩)) rfl ?_ ?_ ?_ (fun _ _ _ h => h) (Or.inl ⟨by rfl, ?_⟩) ?_; (· decide +kernel); (· decide +kernel); (· decide +kernel); (· (intro w; go_simp))))
        refine wpAny_ready (rs := [11]) (by decide +kernel) (by simp) ?_
        refine AllReady.cons rfl (fun K hK => ?_) AllReady.nil
        go_simp
        refine (rnat_any _ R T [.int .i64 0] bs2 false (by exact hrd2)).mono ?_
        rintro e w3 ⟨v3, x3, bs3, bad3, rfl, ⟨rfl, hn3⟩, hrd3, hg3, hl3, hh3⟩
        obtain ⟨hb3, C3⟩ := C2.step (lenI_on hh3.out)
        subst hb3
        clear hh3
        have K3 : W0.grownBy w3 (some R) := grownBy_trans (by exact K2) hg3
        have q3 := K3.size
        have r3 := hrd3.lt
        have hB3 : Blk w3 W0.heap.size 55 [.int .i64 0, .int .i64 0, .int .i64 0, .int .i64 0, .string ⟨#[]⟩, .int .i64 0, .int .i64 0, .string ⟨#[]⟩, .slice none 0 0] := Blk.grown hB2 hg3 (by simp; omega)
        try dsimp only
        refine hK _ _ ?_
        clear hK K
        repeat (first | (refine wpAny_take (i := 0) (v := .pointer (some ⟨R, 0, none⟩)) rfl ?_ ?_ ?_ (fun _ _ _ h => h) (Or.inl ⟨by rfl, ?_⟩) ?_; (· decide +kernel); (· decide +kernel); (· decide +kernel); (· (intro w; go_simp))) | (refine wpAny_take (i := 1) (v := .pointer (some ⟨R, 0, none⟩)) rfl ?_ ?_ ?_ (fun _ _ _ h => h) (Or.inl ⟨by rfl, ?_⟩) ?_; (· decide +kernel); (· decide +kernel); (· decide +kernel); (· (intro w; go_simp))) | (refine wpAny_take (i := 2) (v := .pointer (some ⟨R, 0, none⟩)) rfl ?_ ?_ ?_ (fun _ _ _ h => h) (Or.inl ⟨by rfl, ?_⟩) ?_; (· decide +kernel); (· decide +kernel); (· decide +kernel); (· (intro w; go_simp))) | (refine wpAny_take (i := 4) (v := .pointer (some ⟨R, 0, none⟩)) rfl ?_ ?_ ?_ (fun _ _ _ h => h) (Or.inl ⟨by rfl, ?_⟩) ?_; (· decide +kernel); (· decide +kernel); (· decide +kernel); (· (intro w; go_simp))) | (refine wpAny_take (i := 5) (v := .pointer (some ⟨R, 0, none⟩)) rfl ?_ ?_ ?_ (fun _ _ _ h => h) (Or.inl ⟨by rfl, ?_⟩) ?_; (· decide +kernel); (· decide +kernel); (· decide +kernel); (· (intro w; go_simp))) | (refine wpAny_take (i := 6) (v := .pointer (some ⟨R, 0, none⟩)) rfl ?_ ?_ ?_ (fun _ _ _ h => h) (Or.inl ⟨by rfl, ?_⟩) ?_; (· decide +kernel); (· decide +kernel); (· decide +kernel); (· (intro w; go_simp))) | (refine wpAny_take (i := 8) (v := .pointer (some ⟨R, 0, none⟩)) rfl ?_ ?_ ?_ (fun _ _ _ h => h) (Or.inl ⟨by rfl, ?_⟩) ?_; (· decide +kernel); (· decide +kernel); (· decide +kernel); (· (intro w; go_simp))) | (refine wpAny_take (i := 9) (v := .pointer (some ⟨R, 0, none⟩)) rfl ?_ ?_ ?_ (fun _ _ _ h => h) (Or.inl ⟨by rfl, ?_⟩) ?_; (· decide +kernel); (· decide +kernel); (· decide +kernel); (· (intro w; go_simp))) | (refine wpAny_take (i := 10) (v := .pointer (some ⟨R, 0, none⟩)) rfl ?_ ?_ ?_ (fun _ _ _ h => h) (Or.inl ⟨by rfl, ?_⟩) ?_; (· decide +kernel); (· decide +kernel); (· decide +kernel); (· (intro w; go_simp))) | (refine wpAny_take (i := 12) (v := .pointer (some ⟨R, 0, none⟩)) rfl ?_ ?_ ?_ (fun _ _ _ h => h) (Or.inl ⟨by rfl, ?_⟩) ?_; (· decide +kernel); (· decide +kernel); (· decide +kernel); (· (intro w; go_simp))) | (refine wpAny_take (i := 13) (v := .pointer (some ⟨R, 0, none⟩)) rfl ?_ ?_ ?_ (fun _ _ _ h => h) (Or.inl ⟨by rfl, ?_⟩) ?_; (· decide +kernel); (· decide +kernel); (· decide +kernel); (· (intro w; go_simp))) | (refine wpAny_take (i := 14) (v := .pointer (some ⟨R, 0, none⟩)) rfl ?_ ?_ ?_ (fun _ _ _ h => h) (Or.inl ⟨by rfl, ?_⟩) ?_; (· decide +kernel); (· decide +kernel); (· decide +kernel); (· (intro w; go_simp))) | (refine wpAny_take (i := 16) (v := .pointer (some ⟨R, 0, none⟩)) rfl ?_ ?_ ?_ (fun _ _ _ h => h) (Or.inl ⟨by rfl, ?_⟩) ?_; (· decide +kernel); (· decide +kernel); (· decide +kernel); (· (intro w; go_simp))) | (refine wpAny_take (i := 17) (v := .pointer (some ⟨R, 0, none⟩)) rfl ?_ ?_ ?_ (fun _ _ _ h => h) (Or.inl ⟨by rfl, ?_⟩) ?_; (· decide +kernel); (· decide +kernel); (· decide +kernel); (· (intro w; go_simp))) | (refine wpAny_take (i := 18) (v := .pointer (some ⟨R, 0, none⟩)) rfl ?_ ?_ ?_ (fun _ _ _ h => h) (Or.inl ⟨by rfl, ?_⟩) ?_; (· decide +kernel); (· decide +kernel); (· decide +kernel); (· (intro w; go_simp))))
        refine wpAny_ready (rs := [15]) (by decide +kernel) (by simp) ?_
        refine AllReady.cons rfl (fun K hK => ?_) AllReady.nil
        go_simp
        refine (rnat_any _ R T [.int .i64 0] bs3 false (by exact hrd3)).mono ?_
        rintro e w4 ⟨v4, x4, bs4, bad4, rfl, ⟨rfl, hn4⟩, hrd4, hg4, hl4, hh4⟩
        obtain ⟨hb4, C4⟩ := C3.step (lenI_on hh4.out)
        subst hb4
        clear hh4
        have K4 : W0.grownBy w4 (some R) := grownBy_trans (by exact K3) hg4
        have q4 := K4.size
        have r4 := hrd4.lt
        have hB4 : Blk w4 W0.heap.size 55 [.int .i64 0, .int .i64 0, .int .i64 0, .int .i64 0, .string ⟨#[]⟩, .int .i64 0, .int .i64 0, .string ⟨#[]⟩, .slice none 0 0] := Blk.grown hB3 hg4 (by simp; omega)
        try dsimp only
        refine hK _ _ ?_
        clear hK K
        repeat (first | (refine wpAny_take (i := 0) (v := .pointer (some ⟨R, 0, none⟩)) rfl ?_ ?_ ?_ (fun _ _ _ h => h) (Or.inl ⟨by rfl, ?_⟩) ?_; (· decide +kernel); (· decide +kernel); (· decide +kernel); (· (intro w; go_simp))) | (refine wpAny_take (i := 1) (v := .pointer (some ⟨R, 0, none⟩)) rfl ?_ ?_ ?_ (fun _ _ _ h => h) (Or.inl ⟨by rfl, ?_⟩) ?_; (· decide +kernel); (· decide +kernel); (· decide +kernel); (· (intro w; go_simp))) | (refine wpAny_take (i := 2) (v := .pointer (some ⟨R, 0, none⟩)) rfl ?_ ?_ ?_ (fun _ _ _ h => h) (Or.inl ⟨by rfl, ?_⟩) ?_; (· decide +kernel); (· decide +kernel); (· decide +kernel); (· (intro w; go_simp))) | (refine wpAny_take (i := 4) (v := .pointer (some ⟨R, 0, none⟩)) rfl ?_ ?_ ?_ (fun _ _ _ h => h) (Or.inl ⟨by rfl, ?_⟩) ?_; (· decide +kernel); (· decide +kernel); (· decide +kernel); (· (intro w; go_simp))) | (refine wpAny_take (i := 5) (v := .pointer (some ⟨R, 0, none⟩)) rfl ?_ ?_ ?_ (fun _ _ _ h => h) (Or.inl ⟨by rfl, ?_⟩) ?_; (· decide +kernel); (· decide +kernel); (· decide +kernel); (· (intro w; go_simp))) | (refine wpAny_take (i := 6) (v := .pointer (some ⟨R, 0, none⟩)) rfl ?_ ?_ ?_ (fun _ _ _ h => h) (Or.inl ⟨by rfl, ?_⟩) ?_; (· decide +kernel); (· decide +kernel); (· decide +kernel); (· (intro w; go_simp))) | (refine wpAny_take (i := 8) (v := .pointer (some ⟨R, 0, none⟩)) rfl ?_ ?_ ?_ (fun _ _ _ h => h) (Or.inl ⟨by rfl, ?_⟩) ?_; (· decide +kernel); (· decide +kernel); (· decide +kernel); (· (intro w; go_simp))) | (refine wpAny_take (i := 9) (v := .pointer (some ⟨R, 0, none⟩)) rfl ?_ ?_ ?_ (fun _ _ _ h => h) (Or.inl ⟨by rfl, ?_⟩) ?_; (· decide +kernel); (· decide +kernel); (· decide +kernel); (· (intro w; go_simp))) | (refine wpAny_take (i := 10) (v := .pointer (some ⟨R, 0, none⟩)) rfl ?_ ?_ ?_ (fun _ _ _ h => h) (Or.inl ⟨by rfl, ?_⟩) ?_; (· decide +kernel); (· decide +kernel); (· decide +kernel); (· (intro w; go_simp))) | (refine wpAny_take (i := 12) (v := .pointer (some ⟨R, 0, none⟩)) rfl ?_ ?_ ?_ (fun _ _ _ h => h) (Or.inl ⟨by rfl, ?_⟩) ?_; (· decide +kernel); (· decide +kernel); (· decide +kernel); (· (intro w; go_simp))) | (refine wpAny_take (i := 13) (v := .pointer (some ⟨R, 0, none⟩)) rfl ?_ ?_ ?_ (fun _ _ _ h => h) (Or.inl ⟨by rfl, ?_⟩) ?_; (· decide +kernel); (· decide +kernel); (· decide +kernel); (· (intro w; go_simp))) | (refine wpAny_take (i := 14) (v := .pointer (some ⟨R, 0, none⟩)) rfl ?_ ?_ ?_ (fun _ _ _ h => h) (Or.inl ⟨by rfl, ?_⟩) ?_; (· decide +kernel); (· decide +kernel); (· decide +kernel); (· (intro w; go_simp))) | (refine wpAny_take (i := 16) (v := .pointer (some ⟨R, 0, none⟩)) rfl ?_ ?_ ?_ (fun _ _ _ h => h) (Or.inl ⟨by rfl, ?_⟩) ?_; (· decide +kernel); (· decide +kernel); (· decide +kernel); (· (intro w; go_simp))) | (refine wpAny_take (i := 17) (v := .pointer (some ⟨R, 0, none⟩)) rfl ?_ ?_ ?_ (fun _ _ _ h => h) (Or.inl ⟨by rfl, ?_⟩) ?_; (· decide +kernel); (· decide +kernel); (· decide +kernel); (· (intro w; go_simp))) | (refine wpAny_take (i := 18) (v := .pointer (some ⟨R, 0, none⟩)) rfl ?_ ?_ ?_ (fun _ _ _ h => h) (Or.inl ⟨by rfl, ?_⟩) ?_; (· decide +kernel); (· decide +kernel); (· decide +kernel); (· (intro w; go_simp))))
        refine wpAny_ready (rs := [19]) (by decide +kernel) (by simp) ?_
        refine AllReady.cons rfl (fun K hK => ?_) AllReady.nil
        go_simp
        refine (rtext_any _ R T [.int .i64 0] bs4 false (by exact hrd4)).mono ?_
        rintro e w5 ⟨v5, x5, bs5, bad5, rfl, ⟨rfl, ht5⟩, hrd5, hg5, hl5, hh5⟩
        obtain ⟨hb5, C5⟩ := C4.step hh5.out
        subst hb5
        clear hh5
        have K5 : W0.grownBy w5 (some R) := grownBy_trans (by exact K4) hg5
        have q5 := K5.size
        have r5 := hrd5.lt
        have hB5 : Blk w5 W0.heap.size 55 [.int .i64 0, .int .i64 0, .int .i64 0, .int .i64 0, .string ⟨#[]⟩, .int .i64 0, .int .i64 0, .string ⟨#[]⟩, .slice none 0 0] := Blk.grown hB4 hg5 (by simp; omega)
        have k0 := hB5.cell 0
        have j0 := hB5.frozen 0
        have k1 := hB5.cell 1
        have j1 := hB5.frozen 1
        have k2 := hB5.cell 2
        have j2 := hB5.frozen 2
        have k3 := hB5.cell 3
        have j3 := hB5.frozen 3
        have k4 := hB5.cell 4
        have j4 := hB5.frozen 4
        have k5 := hB5.cell 5
        have j5 := hB5.frozen 5
        have k6 := hB5.cell 6
        have j6 := hB5.frozen 6
        have k7 := hB5.cell 7
        have j7 := hB5.frozen 7
        have k8 := hB5.cell 8
        have j8 := hB5.frozen 8
        have jl := hB5.lt
        simp only [List.getElem?_cons_succ, List.getElem?_cons_zero] at k0 k1 k2 k3 k4 k5 k6 k7 k8
        try dsimp only
        refine hK _ _ ?_
        clear hK K
        repeat (first | (refine wpAny_take (i := 20) (v := .agg #[.int .i64 x1, .int .i64 (x2 : Int), .int .i64 (x3 : Int), .int .i64 (x4 : Int), .string x5, .int .i64 0, .int .i64 0, .string ⟨#[]⟩, .slice none 0 0]) rfl ?_ ?_ ?_ (fun _ _ _ h => h) (Or.inl ⟨by rfl, ?_⟩) ?_; (· decide +kernel); (· decide +kernel); (· decide +kernel); (· (intro w; go_simp))))
        refine wpAny_ready (rs := [22]) (by decide +kernel) (by simp) ?_
        refine AllReady.cons rfl (fun K hK => ?_) AllReady.nil
        go_simp
        refine hK _ _ ?_
        clear hK K
        refine wpAny_done (by decide +kernel) ?_ _
        go_wp2_with (fail)
        go_meet
        have hz5 := hB0.grown K5 (by simp; omega)
        have hG5 := grownBy_trans hG0 K5
        exact midL_set hB5 (by omega) l1 ⟨hx1, hx2⟩ hn2 hn3 hn4 (by omega) hz5 hrd5 hG5 (by omega) C5
  case rest =>
    clear hrd0 hG0 hB0 lR hzl C0
    obtain ⟨g, k, f, t, n, s, bs5, rfl, hgw, hC, hB, ⟨hk1, hk2⟩, hf, ht, hn, hs, hrd, hG, hle, C5⟩ := hcut
    have lg := hC.lt
    have lz := hB.lt
    by_cases hk : k = 1
    · subst hk
      have C6 : Cur (decL 40) false bs (seqD (decV 40) fun v => retD ⟨1, f, t, n, s, v⟩) bs5 := C5
      have c0 := hC.cell 0
      simp only [List.getElem?_cons_zero] at c0
      clear C5
      go_wp2_with (fail)
      refine (rvalue 40 wc R T 0 bs5 (by omega) (by omega) (by omega) hrd).mono ?_
      rintro e w3 ⟨X, A3, c3, bs3, bad3, dep3, rfl, hv3, hrd3, hg3, hl3, hh3, hd1, hd2, hd3⟩
      obtain ⟨vk, vn, vt, va⟩ := X
      simp only [vagg, vcells, V.kind, V.num, V.text, V.args] at hv3 ⊢
      obtain ⟨hbad, C7⟩ := C6.step hh3.out
      subst hbad
      have hd0 := hd3 rfl
      subst hd0
      have hB3 := hB.grown hg3 (by simp; omega)
      have hC3 := hC.grown hg3 (by simp; omega)
      have hG3 := grownBy_trans hG hg3
      obtain ⟨W4, hW4⟩ : ∃ W4, W4 = setRow w3 g 5 [.int .i64 vk, .int .i64 vn, .string vt, .slice A3 va.length c3] := ⟨_, rfl⟩
      have hC4 : Blk W4 g 55 [.int .i64 1, .int .i64 f, .int .i64 t, .int .i64 n, .string s, .int .i64 vk, .int .i64 vn, .string vt, .slice A3 va.length c3] := by rw [hW4]; exact setRow_blk_at _ [.int .i64 1, .int .i64 f, .int .i64 t, .int .i64 n, .string s] _ _ hC3 rfl
      have hB4 : Blk W4 w.heap.size 55 [.int .i64 0, .int .i64 0, .int .i64 0, .int .i64 0, .string ⟨#[]⟩, .int .i64 0, .int .i64 0, .string ⟨#[]⟩, .slice none 0 0] := by rw [hW4]; exact hB3.same (D := fun b => b ≠ g) (setRow_same (by simp) _ _ _) (by omega)
      have hG4 : w.grownBy W4 (some R) := by rw [hW4]; exact setRow_grown (.inr (by omega)) _ _ _ hG3
      have hrd4 : Rd W4 R T [.int .i64 0] bs3 false := by rw [hW4]; exact hrd3.keep (setRow_same (by omega) _ _ _)
      have hv4 : VCells 41 W4 (fun b => wc.heap.size ≤ b) [.int .i64 vk, .int .i64 vn, .string vt, .slice A3 va.length c3] (V.mk vk vn vt va) := by rw [hW4]; exact hv3.keep (setRow_same (by omega) _ _ _)
      have hfin : RxPost (LCells 41) (decL 40) w R T bs (.returned (.agg #[.int .i64 1, .int .i64 f, .int .i64 t, .int .i64 n, .string s, .int .i64 vk, .int .i64 vn, .string vt, .slice A3 va.length c3])) (setRow W4 w.heap.size 0 [.int .i64 1, .int .i64 f, .int .i64 t, .int .i64 n, .string s, .int .i64 vk, .int .i64 vn, .string vt, .slice A3 va.length c3]) :=
        ⟨⟨1, f, t, n, s, V.mk vk vn vt va⟩, [.int .i64 1, .int .i64 f, .int .i64 t, .int .i64 n, .string s, .int .i64 vk, .int .i64 vn, .string vt, .slice A3 va.length c3], bs3, rfl, ⟨_, rfl, ⟨⟨by simp only; omega, by simp only; omega⟩, ⟨by simp only; omega, by simp only; omega⟩, ⟨by simp only; omega, by simp only; omega⟩, ⟨by simp only; omega, by simp only; omega⟩, by simp only; omega⟩, (hv4.keep (setRow_same (by omega) _ _ _)).imp fun b hb _ => by omega⟩, hrd4.keep (setRow_same (by omega) _ _ _), setRow_grown (.inr (Nat.le_refl _)) _ _ _ hG4, by omega, C7.good⟩
      have hq := setRow_blk hB4 [.int .i64 1, .int .i64 f, .int .i64 t, .int .i64 n, .string s, .int .i64 vk, .int .i64 vn, .string vt, .slice A3 va.length c3] rfl
      simp only [setRow, Nat.reduceAdd] at hfin hq hW4
      have Hfin := Lib.hid hfin
      have Hq := Lib.hid hq
      have HW4 := Lib.hid hW4
      have q0 := hC3.cell 0
      have q1 := hC3.cell 1
      have q2 := hC3.cell 2
      have q3 := hC3.cell 3
      have q4 := hC3.cell 4
      have q5 := hC3.cell 5
      have q6 := hC3.cell 6
      have q7 := hC3.cell 7
      have q8 := hC3.cell 8
      have v0 := hC3.frozen 0
      have v1 := hC3.frozen 1
      have v2 := hC3.frozen 2
      have v3 := hC3.frozen 3
      have v4 := hC3.frozen 4
      have v5 := hC3.frozen 5
      have v6 := hC3.frozen 6
      have v7 := hC3.frozen 7
      have v8 := hC3.frozen 8
      simp only [List.getElem?_cons_succ, List.getElem?_cons_zero] at q0 q1 q2 q3 q4 q5 q6 q7 q8
      have lz3 := hC3.lt
      have m0 := hC4.cell 0
      have m1 := hC4.cell 1
      have m2 := hC4.cell 2
      have m3 := hC4.cell 3
      have m4 := hC4.cell 4
      have m5 := hC4.cell 5
      have m6 := hC4.cell 6
      have m7 := hC4.cell 7
      have m8 := hC4.cell 8
      simp only [List.getElem?_cons_succ, List.getElem?_cons_zero] at m0 m1 m2 m3 m4 m5 m6 m7 m8
      have p0 := hB4.cell 0
      have p1 := hB4.cell 1
      have p2 := hB4.cell 2
      have p3 := hB4.cell 3
      have p4 := hB4.cell 4
      have p5 := hB4.cell 5
      have p6 := hB4.cell 6
      have p7 := hB4.cell 7
      have p8 := hB4.cell 8
      have u0 := hB4.frozen 0
      have u1 := hB4.frozen 1
      have u2 := hB4.frozen 2
      have u3 := hB4.frozen 3
      have u4 := hB4.frozen 4
      have u5 := hB4.frozen 5
      have u6 := hB4.frozen 6
      have u7 := hB4.frozen 7
      have u8 := hB4.frozen 8
      simp only [List.getElem?_cons_succ, List.getElem?_cons_zero] at p0 p1 p2 p3 p4 p5 p6 p7 p8
      have lz4 := hB4.lt
      clear hfin hq hW4 hB hC hB3 hC3 hB4 hC4 hrd hrd3 hrd4 hG hG3 hG4 hv3 hv4 C6 C7 hh3 hg3
      go_upto_region 4 with (fail)
      rw [← HW4.out]
      clear HW4 q0 q1 q2 q3 q4 q5 q6 q7 q8 v0 v1 v2 v3 v4 v5 v6 v7 v8 lz3
      go_wp2_with (fail)
      refine ret_blk rfl rfl Hq.out Try.underlying55 (by kernel_rfl) rfl ?_
      exact Hfin.out
    · have h3 : (k == 1) = false := by simpa using hk
      have C6 : Cur (decL 40) false bs (retD ⟨k, f, t, n, s, zeroV⟩) bs5 := by
        unfold tailL at C5
        rw [if_neg hk] at C5
        exact C5
      have hfin : RxPost (LCells 41) (decL 40) w R T bs (.returned (.agg #[.int .i64 k, .int .i64 f, .int .i64 t, .int .i64 n, .string s, .int .i64 0, .int .i64 0, .string ⟨#[]⟩, .slice none 0 0])) (setRow wc w.heap.size 0 [.int .i64 k, .int .i64 f, .int .i64 t, .int .i64 n, .string s, .int .i64 0, .int .i64 0, .string ⟨#[]⟩, .slice none 0 0]) :=
        ⟨⟨k, f, t, n, s, zeroV⟩, [.int .i64 k, .int .i64 f, .int .i64 t, .int .i64 n, .string s, .int .i64 0, .int .i64 0, .string ⟨#[]⟩, .slice none 0 0], bs5, rfl, ⟨_, rfl, ⟨⟨by simp only; omega, by simp only; omega⟩, ⟨by simp only; omega, by simp only; omega⟩, ⟨by simp only; omega, by simp only; omega⟩, ⟨by simp only; omega, by simp only; omega⟩, by simp only; omega⟩, VCells.zero 40 _ _⟩, hrd.keep (setRow_same (by omega) _ _ _), setRow_grown (.inr (Nat.le_refl _)) _ _ _ hG, by omega, C6.good⟩
      have hq := setRow_blk hB [.int .i64 k, .int .i64 f, .int .i64 t, .int .i64 n, .string s, .int .i64 0, .int .i64 0, .string ⟨#[]⟩, .slice none 0 0] rfl
      simp only [setRow, Nat.reduceAdd] at hfin hq
      have Hfin := Lib.hid hfin
      have Hq := Lib.hid hq
      have m0 := hC.cell 0
      have m1 := hC.cell 1
      have m2 := hC.cell 2
      have m3 := hC.cell 3
      have m4 := hC.cell 4
      have m5 := hC.cell 5
      have m6 := hC.cell 6
      have m7 := hC.cell 7
      have m8 := hC.cell 8
      simp only [List.getElem?_cons_succ, List.getElem?_cons_zero] at m0 m1 m2 m3 m4 m5 m6 m7 m8
      have p0 := hB.cell 0
      have p1 := hB.cell 1
      have p2 := hB.cell 2
      have p3 := hB.cell 3
      have p4 := hB.cell 4
      have p5 := hB.cell 5
      have p6 := hB.cell 6
      have p7 := hB.cell 7
      have p8 := hB.cell 8
      have u0 := hB.frozen 0
      have u1 := hB.frozen 1
      have u2 := hB.frozen 2
      have u3 := hB.frozen 3
      have u4 := hB.frozen 4
      have u5 := hB.frozen 5
      have u6 := hB.frozen 6
      have u7 := hB.frozen 7
      have u8 := hB.frozen 8
      simp only [List.getElem?_cons_succ, List.getElem?_cons_zero] at p0 p1 p2 p3 p4 p5 p6 p7 p8
      clear hfin hq hB hC hrd hG C5 C6
      go_wp2_with (fail)
      refine ret_blk rfl rfl Hq.out Try.underlying55 (by kernel_rfl) rfl ?_
      exact Hfin.out
end Go.Proofs.Yteojmmjanjilaaa
