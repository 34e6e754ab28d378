/- Contract of (*reader).parcel: it follows decP where that succeeds. (Printed by mailpc.py.) -/
import Derived.Test.YteojmmjanjilaaaMailSaved
import Derived.Test.YteojmmjanjilaaaPart19
set_option linter.unusedVariables false
namespace Go.Proofs.Yteojmmjanjilaaa
open Go.RowKit Go.Mem Go.Val

/-- what was read: it lies in new memory -/
def RzPost {α : Type} (cells : World → (Nat → Prop) → List Value → α → Prop) (dec : List UInt8 → Option (α × List UInt8)) (w : World) (R : Nat) (T : TypeId) (bs : List UInt8) (e : Ending) (w' : World) : Prop :=
  ∃ (x : α) (cs : List Value) (bs' : List UInt8) (bad' : Bool), e = .returned (.agg cs.toArray) ∧ cells w' (fun b => w.heap.size ≤ b) cs x ∧ Rd w' R T [.int .i64 0] bs' bad' ∧ w.grownBy w' (some R) ∧ bs'.length ≤ bs.length ∧ Hid ((okS false bs).bind dec = okS bad' (x, bs'))
def restP (d : Nat) (n : Int) : List UInt8 → Option (Pc × List UInt8) := seqD (decS d) fun s => seqD (listD (decL d)) fun b => seqD intD fun t => seqD (listD lenI) fun w => seqD (listD lenI) fun l => retD ⟨n, s, b, t, w, l⟩
theorem first_parcel {bs bs1 : List UInt8} {bad1 : Bool} {x1 : Nat} (hf : bs = [] ∨ (decP 40 bs).isSome = true) (h : (okS false bs).bind lenD = okS bad1 (x1, bs1)) : Hid ((okS false bs).bind (decP 40) = (okS bad1 bs1).bind (restP 40 x1)) ∧ Cur (restP 40 x1) bad1 bs1 (restP 40 x1) bs1 := by
  rcases hf with rfl | hf
  · cases bad1 with
    | true => exact ⟨rfl, rfl, fun h => by cases h⟩
    | false => simp [okS, lenD, natD] at h
  · have h1 := lenI_on h
    obtain ⟨hb, h2⟩ := fine_step (k := restP 40) h1 (fun _ => hf)
    subst hb
    exact ⟨seq_on (restP 40) h1, rfl, h2⟩
def BoxAt (w : World) (D : Nat → Prop) (A : Option Addr) (l : List L) : Prop := ∃ vs, Reads w D 9 A l.length vs.flatten ∧ All2 (LCells 41 w D) vs l
theorem BoxAt.keep {w w' : World} {D : Nat → Prop} {A : Option Addr} {l : List L} (h : BoxAt w D A l) (hk : Same D w w') : BoxAt w' D A l := by
  obtain ⟨vs, h1, h2⟩ := h
  exact ⟨vs, h1.keep hk, h2.imp fun _ _ h => (LCells.stable 41).keep h hk⟩
theorem BoxAt.imp {w : World} {D D' : Nat → Prop} {A : Option Addr} {l : List L} (h : BoxAt w D A l) (hk : ∀ b, D b → b < w.heap.size → D' b) : BoxAt w D' A l := by
  obtain ⟨vs, h1, h2⟩ := h
  exact ⟨vs, h1.imp (by omega) hk, h2.imp fun _ _ h => (LCells.stable 41).imp h hk⟩
/-- the parts of a parcel that lie in other blocks -/
def PF (w : World) (D : Nat → Prop) (A1 : Option Addr) (c1 : Nat) (A2 : Option Addr) (c2 : Nat) (A3 : Option Addr) (sa : ByteArray) (ss : List V) (si : List In) (l3 : List L) : Prop := SvCells 41 w D [.string sa, .slice A1 ss.length c1, .slice A2 si.length c2] ⟨sa, ss, si⟩ ∧ BoxAt w D A3 l3
theorem PF.keep {w w' : World} {D : Nat → Prop} {A1 : Option Addr} {c1 : Nat} {A2 : Option Addr} {c2 : Nat} {A3 : Option Addr} {sa : ByteArray} {ss : List V} {si : List In} {l3 : List L} (h : PF w D A1 c1 A2 c2 A3 sa ss si l3) (hk : Same D w w') : PF w' D A1 c1 A2 c2 A3 sa ss si l3 := ⟨(SvCells.stable 41).keep h.1 hk, h.2.keep hk⟩
/-- behind the reading of four fields -/
def PMid (w : World) (R : Nat) (T : TypeId) (bs : List UInt8) (s3 : Value) (wc : World) : Prop :=
  ∃ (bad : Bool) (bs1 : List UInt8) (g : Nat) (x1 : Nat) (sa : ByteArray) (ss : List V) (si : List In) (A1 : Option Addr) (c1 : Nat) (A2 : Option Addr) (c2 : Nat) (l3 : List L) (A3 : Option Addr) (c3 : Nat) (x4 : Int) (bs4 : List UInt8), s3 = .pointer (some ⟨g, 0, none⟩) ∧ w.heap.size < g ∧ Blk wc g 48 [.int .i64 (x1 : Int), .string sa, .slice A1 ss.length c1, .slice A2 si.length c2, .slice A3 l3.length c3, .int .i64 x4, .slice none 0 0, .slice none 0 0] ∧ Blk wc w.heap.size 48 [.int .i64 0, .string ⟨#[]⟩, .slice none 0 0, .slice none 0 0, .slice none 0 0, .int .i64 0, .slice none 0 0, .slice none 0 0] ∧
    x1 ≤ 9223372036854775807 ∧ Fits64 x4 ∧ PF wc (fun b => w.heap.size < b ∧ b ≠ g) A1 c1 A2 c2 A3 sa ss si l3 ∧ l3.length ≤ 4194304 ∧ l3.length ≤ c3 ∧ c3 ≤ maxLen ∧ Rd wc R T [.int .i64 0] bs4 bad ∧ w.grownBy wc (some R) ∧ bs4.length ≤ bs.length ∧
    Hid ((okS false bs).bind (decP 40) = (okS bad bs1).bind (restP 40 x1)) ∧ Cur (restP 40 x1) bad bs1 (seqD (listD lenI) fun w => seqD (listD lenI) fun l => retD ⟨x1, ⟨sa, ss, si⟩, l3, x4, w, l⟩) bs4
section
variable {w w4 : World} {R g : Nat} {T : TypeId} {bs bs1 bs4 : List UInt8} {bad : Bool} {D2 D3 : Nat → Prop} {x1 : Nat} {sa : ByteArray} {ss : List V} {si : List In} {A1 : Option Addr} {c1 : Nat} {A2 : Option Addr} {c2 : Nat} {l3 : List L} {A3 : Option Addr} {c3 : Nat} {x4 : Int}
theorem midP_new (h2 : ∀ b, D2 b → w.heap.size < b ∧ b < w4.heap.size) (h3 : ∀ b, D3 b → w.heap.size < b ∧ b < w4.heap.size) (sv : SvCells 41 w4 D2 [.string sa, .slice A1 ss.length c1, .slice A2 si.length c2] ⟨sa, ss, si⟩) (bx : BoxAt w4 D3 A3 l3) (hn1 : x1 ≤ 9223372036854775807) (hn4 : Fits64 x4) (hll : l3.length ≤ 4194304) (hc : l3.length ≤ c3) (hm : c3 ≤ maxLen)
    (hz : Blk w4 w.heap.size 48 [.int .i64 0, .string ⟨#[]⟩, .slice none 0 0, .slice none 0 0, .slice none 0 0, .int .i64 0, .slice none 0 0, .slice none 0 0]) (hrd : Rd w4 R T [.int .i64 0] bs4 bad) (hG : w.grownBy w4 (some R)) (hle : bs4.length ≤ bs.length) (E : Hid ((okS false bs).bind (decP 40) = (okS bad bs1).bind (restP 40 x1))) (C : Cur (restP 40 x1) bad bs1 (seqD (listD lenI) fun w => seqD (listD lenI) fun l => retD ⟨x1, ⟨sa, ss, si⟩, l3, x4, w, l⟩) bs4) :
    PMid w R T bs (.pointer (some ⟨w4.heap.size, 0, none⟩)) (w4.alloc (.cells #[.int .i64 (x1 : Int), .string sa, .slice A1 ss.length c1, .slice A2 si.length c2, .slice A3 l3.length c3, .int .i64 x4, .slice none 0 0, .slice none 0 0] 48)) :=
  ⟨bad, bs1, w4.heap.size, x1, sa, ss, si, A1, c1, A2, c2, l3, A3, c3, x4, bs4, rfl, hz.lt, Blk.new w4 _ _, hz.alloc _, hn1, hn4, ⟨(SvCells.stable 41).keep ((SvCells.stable 41).imp sv fun b hb _ => by have := h2 b hb; omega) (Same.alloc _ _ _), (bx.imp fun b hb _ => by have := h3 b hb; omega).keep (Same.alloc _ _ _)⟩, hll, hc, hm, hrd.alloc _, grownBy_alloc hG _, hle, E, C⟩
theorem midP_set (hB : Blk w4 g 48 [.int .i64 0, .string ⟨#[]⟩, .slice none 0 0, .slice none 0 0, .slice none 0 0, .int .i64 0, .slice none 0 0, .slice none 0 0]) (hg : w.heap.size < g) (hR : R < w.heap.size) (h2 : ∀ b, D2 b → w.heap.size < b ∧ b ≠ g) (h3 : ∀ b, D3 b → w.heap.size < b ∧ b ≠ g) (sv : SvCells 41 w4 D2 [.string sa, .slice A1 ss.length c1, .slice A2 si.length c2] ⟨sa, ss, si⟩) (bx : BoxAt w4 D3 A3 l3) (hn1 : x1 ≤ 9223372036854775807) (hn4 : Fits64 x4) (hll : l3.length ≤ 4194304) (hc : l3.length ≤ c3) (hm : c3 ≤ maxLen)
    (hz : Blk w4 w.heap.size 48 [.int .i64 0, .string ⟨#[]⟩, .slice none 0 0, .slice none 0 0, .slice none 0 0, .int .i64 0, .slice none 0 0, .slice none 0 0]) (hrd : Rd w4 R T [.int .i64 0] bs4 bad) (hG : w.grownBy w4 (some R)) (hle : bs4.length ≤ bs.length) (E : Hid ((okS false bs).bind (decP 40) = (okS bad bs1).bind (restP 40 x1))) (C : Cur (restP 40 x1) bad bs1 (seqD (listD lenI) fun w => seqD (listD lenI) fun l => retD ⟨x1, ⟨sa, ss, si⟩, l3, x4, w, l⟩) bs4) :
    PMid w R T bs (.pointer (some ⟨g, 0, none⟩)) ((((((((w4.setCell ⟨g, 0, none⟩ (.int .i64 (x1 : Int))).setCell ⟨g, 1, none⟩ (.string sa)).setCell ⟨g, 2, none⟩ (.slice A1 ss.length c1)).setCell ⟨g, 3, none⟩ (.slice A2 si.length c2)).setCell ⟨g, 4, none⟩ (.slice A3 l3.length c3)).setCell ⟨g, 5, none⟩ (.int .i64 x4)).setCell ⟨g, 6, none⟩ (.slice none 0 0)).setCell ⟨g, 7, none⟩ (.slice none 0 0)) := by
  have e : setRow w4 g 0 [.int .i64 (x1 : Int), .string sa, .slice A1 ss.length c1, .slice A2 si.length c2, .slice A3 l3.length c3, .int .i64 x4, .slice none 0 0, .slice none 0 0] = ((((((((w4.setCell ⟨g, 0, none⟩ (.int .i64 (x1 : Int))).setCell ⟨g, 1, none⟩ (.string sa)).setCell ⟨g, 2, none⟩ (.slice A1 ss.length c1)).setCell ⟨g, 3, none⟩ (.slice A2 si.length c2)).setCell ⟨g, 4, none⟩ (.slice A3 l3.length c3)).setCell ⟨g, 5, none⟩ (.int .i64 x4)).setCell ⟨g, 6, none⟩ (.slice none 0 0)).setCell ⟨g, 7, none⟩ (.slice none 0 0)) := rfl
  rw [← e]
  have hk : Same (fun b => w.heap.size < b ∧ b ≠ g) w4 (setRow w4 g 0 [.int .i64 (x1 : Int), .string sa, .slice A1 ss.length c1, .slice A2 si.length c2, .slice A3 l3.length c3, .int .i64 x4, .slice none 0 0, .slice none 0 0]) := setRow_same (by simp) _ _ _
  exact ⟨bad, bs1, g, x1, sa, ss, si, A1, c1, A2, c2, l3, A3, c3, x4, bs4, rfl, hg, setRow_blk hB _ rfl, hz.same (D := fun b => b ≠ g) (setRow_same (by simp) _ _ _) (by omega), hn1, hn4, ⟨(SvCells.stable 41).keep ((SvCells.stable 41).imp sv fun b hb _ => h2 b hb) hk, (bx.imp fun b hb _ => h3 b hb).keep hk⟩, hll, hc, hm, hrd.keep (setRow_same (by omega) _ _ _), setRow_grown (.inr (by omega)) _ _ _ hG, hle, E, C⟩
end
theorem nums_own {w : World} {base : Nat} {A : Option Addr} {c : Nat} {l : List Int} (h : OwnList 3 1 NumCell w base (.slice A l.length c) l) : l.length ≤ c ∧ c ≤ maxLen ∧ Reads w (fun b => base ≤ b) 1 A l.length (nums l) := by
  obtain ⟨vs, _, h1, h2, hr, ha⟩ := h.reads NumCell.stable (by omega)
  rw [nums_flat ha] at hr
  exact ⟨h1, h2, hr⟩

set_option maxRecDepth 100000 in
set_option maxHeartbeats 4000000 in
theorem rparcel_any (w : World) (R : Nat) (T : TypeId) (bs : List UInt8) (hlen : bs.length ≤ 4194304) (h : Rd w R T [.int .i64 0] bs false) (hf : bs = [] ∨ (decP 40 bs).isSome = true) :
    Calls Try.prog 70 #[.pointer (some ⟨R, 0, none⟩)] w (RzPost (PcCells 41) (decP 40) w R T bs) := by
  have l1 := h.lt
  have HF := Lib.hid hf
  clear hf
  obtain ⟨W0, hW0⟩ : ∃ W0, W0 = w.alloc (.cells #[.int .i64 0, .string ⟨#[]⟩, .slice none 0 0, .slice none 0 0, .slice none 0 0, .int .i64 0, .slice none 0 0, .slice none 0 0] 48) := ⟨_, rfl⟩
  have hrd0 : Rd W0 R T [.int .i64 0] bs false := by rw [hW0]; exact h.alloc _
  have hG0 : w.grownBy W0 (some R) := by rw [hW0]; exact grownBy_alloc (World.grownBy.refl w _) _
  have hB0 : Blk W0 w.heap.size 48 [.int .i64 0, .string ⟨#[]⟩, .slice none 0 0, .slice none 0 0, .slice none 0 0, .int .i64 0, .slice none 0 0, .slice none 0 0] := by rw [hW0]; exact Blk.new w _ _
  have HW := Lib.hid hW0
  have lR := hrd0.lt
  have hzl := hB0.lt
  clear hW0 h
  go_enter Try.func70, Try.ntmps70
  go_upto_region 1 with (fail)
  rw [← HW.out]
  clear HW
  go_cut [3] (fun s3 wc => PMid w R T bs s3 wc)
  case first =>
      have zz : ∀ W : World, Blk (W.alloc (.cells #[.int .i64 0, .string ⟨#[]⟩, .slice none 0 0, .slice none 0 0, .slice none 0 0, .int .i64 0, .slice none 0 0, .slice none 0 0] 48)) W.heap.size 48 [.int .i64 0, .string ⟨#[]⟩, .slice none 0 0, .slice none 0 0, .slice none 0 0, .int .i64 0, .slice none 0 0, .slice none 0 0] := fun W => Blk.new W _ _
      have ZZ := Lib.hid zz
      clear zz
      refine wp_region_any (by kernel_rfl) ?_
      change wpAny _ _ _ _ _ _ _ (World.drew _)
      repeat (first | (refine wpAny_take (i := 0) (v := .pointer (some ⟨R, 0, none⟩)) rfl ?_ ?_ ?_ (fun _ _ _ h => h) (Or.inl ⟨by rfl, ?_⟩) ?_; (· decide +kernel); (· decide +kernel); (· decide +kernel); (· (intro w; go_simp))) | (refine wpAny_take (i := 1) (v := .pointer (some ⟨R, 0, none⟩)) rfl ?_ ?_ ?_ (fun _ _ _ h => h) (Or.inl ⟨by rfl, ?_⟩) ?_; (· decide +kernel); (· decide +kernel); (· decide +kernel); (· (intro w; go_simp))) | (refine wpAny_take (i := 2) (v := .pointer (some ⟨R, 0, none⟩)) rfl ?_ ?_ ?_ (fun _ _ _ h => h) (Or.inl ⟨by rfl, ?_⟩) ?_; (· decide +kernel); (· decide +kernel); (· decide +kernel); (· (intro w; go_simp))) | (refine wpAny_take (i := 4) (v := .pointer (some ⟨R, 0, none⟩)) rfl ?_ ?_ ?_ (fun _ _ _ h => h) (Or.inl ⟨by rfl, ?_⟩) ?_; (· decide +kernel); (· decide +kernel); (· decide +kernel); (· (intro w; go_simp))) | (refine wpAny_take (i := 6) (v := .pointer (some ⟨R, 0, none⟩)) rfl ?_ ?_ ?_ (fun _ _ _ h => h) (Or.inl ⟨by rfl, ?_⟩) ?_; (· decide +kernel); (· decide +kernel); (· decide +kernel); (· (intro w; go_simp))) | (refine wpAny_take (i := 7) (v := .pointer (some ⟨R, 0, none⟩)) rfl ?_ ?_ ?_ (fun _ _ _ h => h) (Or.inl ⟨by rfl, ?_⟩) ?_; (· decide +kernel); (· decide +kernel); (· decide +kernel); (· (intro w; go_simp))) | (refine wpAny_take (i := 8) (v := .pointer (some ⟨R, 0, none⟩)) rfl ?_ ?_ ?_ (fun _ _ _ h => h) (Or.inl ⟨by rfl, ?_⟩) ?_; (· decide +kernel); (· decide +kernel); (· decide +kernel); (· (intro w; go_simp))) | (refine wpAny_take (i := 9) (v := .pointer (some ⟨R, 0, none⟩)) rfl ?_ ?_ ?_ (fun _ _ _ h => h) (Or.inl ⟨by rfl, ?_⟩) ?_; (· decide +kernel); (· decide +kernel); (· decide +kernel); (· (intro w; go_simp))) | (refine wpAny_take (i := 12) (v := .pointer (some ⟨R, 0, none⟩)) rfl ?_ ?_ ?_ (fun _ _ _ h => h) (Or.inl ⟨by rfl, ?_⟩) ?_; (· decide +kernel); (· decide +kernel); (· decide +kernel); (· (intro w; go_simp))) | (refine wpAny_take (i := 13) (v := .pointer (some ⟨R, 0, none⟩)) rfl ?_ ?_ ?_ (fun _ _ _ h => h) (Or.inl ⟨by rfl, ?_⟩) ?_; (· decide +kernel); (· decide +kernel); (· decide +kernel); (· (intro w; go_simp))) | (refine wpAny_take (i := 14) (v := .pointer (some ⟨R, 0, none⟩)) rfl ?_ ?_ ?_ (fun _ _ _ h => h) (Or.inl ⟨by rfl, ?_⟩) ?_; (· decide +kernel); (· decide +kernel); (· decide +kernel); (· (intro w; go_simp))) | (refine wpAny_take (i := 10) (v := .func (.func 85) #[.pointer (some ⟨R, 0, none⟩)] #[]) rfl ?_ ?_ ?_ (fun _ _ _ h => h) (Or.inl ⟨by rfl, ?_⟩) ?_; (· decide +kernel); (· decide +kernel); (· decide +kernel); (· (intro w; go_simp))))
      refine wpAny_ready (rs := [3, 17]) (by decide +kernel) (by simp) ?_
      refine AllReady.cons rfl (fun K hK => ?_) (AllReady.cons rfl (fun K hK => ?_) AllReady.nil)
      · go_simp
        refine (rnat_any _ R T [.int .i64 0] bs false (by exact hrd0)).mono ?_
        rintro e w1 ⟨v1, x1, bs1, bad1, rfl, ⟨rfl, hn1⟩, hrd1, hg1, hl1, hh1⟩
        obtain ⟨E1, C1⟩ := first_parcel HF.out hh1.out
        clear hh1
        have K1 : W0.grownBy w1 (some R) := grownBy_trans (by exact (grownBy_drew (World.grownBy.refl W0 _))) hg1
        have q1 := K1.size
        have r1 := hrd1.lt
        have s1 : W0.heap.size ≤ w1.heap.size := by have := hg1.size; (try simp at this); omega
        try dsimp only
        refine hK _ _ ?_
        clear hK K
        repeat (first | (refine wpAny_take (i := 0) (v := .pointer (some ⟨R, 0, none⟩)) rfl ?_ ?_ ?_ (fun _ _ _ h => h) (Or.inl ⟨by rfl, ?_⟩) ?_; (· decide +kernel); (· decide +kernel); (· decide +kernel); (· (intro w; go_simp))) | (refine wpAny_take (i := 1) (v := .pointer (some ⟨R, 0, none⟩)) rfl ?_ ?_ ?_ (fun _ _ _ h => h) (Or.inl ⟨by rfl, ?_⟩) ?_; (· decide +kernel); (· decide +kernel); (· decide +kernel); (· (intro w; go_simp))) | (refine wpAny_take (i := 2) (v := .pointer (some ⟨R, 0, none⟩)) rfl ?_ ?_ ?_ (fun _ _ _ h => h) (Or.inl ⟨by rfl, ?_⟩) ?_; (· decide +kernel); (· decide +kernel); (· decide +kernel); (· (intro w; go_simp))) | (refine wpAny_take (i := 4) (v := .pointer (some ⟨R, 0, none⟩)) rfl ?_ ?_ ?_ (fun _ _ _ h => h) (Or.inl ⟨by rfl, ?_⟩) ?_; (· decide +kernel); (· decide +kernel); (· decide +kernel); (· (intro w; go_simp))) | (refine wpAny_take (i := 6) (v := .pointer (some ⟨R, 0, none⟩)) rfl ?_ ?_ ?_ (fun _ _ _ h => h) (Or.inl ⟨by rfl, ?_⟩) ?_; (· decide +kernel); (· decide +kernel); (· decide +kernel); (· (intro w; go_simp))) | (refine wpAny_take (i := 7) (v := .pointer (some ⟨R, 0, none⟩)) rfl ?_ ?_ ?_ (fun _ _ _ h => h) (Or.inl ⟨by rfl, ?_⟩) ?_; (· decide +kernel); (· decide +kernel); (· decide +kernel); (· (intro w; go_simp))) | (refine wpAny_take (i := 8) (v := .pointer (some ⟨R, 0, none⟩)) rfl ?_ ?_ ?_ (fun _ _ _ h => h) (Or.inl ⟨by rfl, ?_⟩) ?_; (· decide +kernel); (· decide +kernel); (· decide +kernel); (· (intro w; go_simp))) | (refine wpAny_take (i := 9) (v := .pointer (some ⟨R, 0, none⟩)) rfl ?_ ?_ ?_ (fun _ _ _ h => h) (Or.inl ⟨by rfl, ?_⟩) ?_; (· decide +kernel); (· decide +kernel); (· decide +kernel); (· (intro w; go_simp))) | (refine wpAny_take (i := 12) (v := .pointer (some ⟨R, 0, none⟩)) rfl ?_ ?_ ?_ (fun _ _ _ h => h) (Or.inl ⟨by rfl, ?_⟩) ?_; (· decide +kernel); (· decide +kernel); (· decide +kernel); (· (intro w; go_simp))) | (refine wpAny_take (i := 13) (v := .pointer (some ⟨R, 0, none⟩)) rfl ?_ ?_ ?_ (fun _ _ _ h => h) (Or.inl ⟨by rfl, ?_⟩) ?_; (· decide +kernel); (· decide +kernel); (· decide +kernel); (· (intro w; go_simp))) | (refine wpAny_take (i := 14) (v := .pointer (some ⟨R, 0, none⟩)) rfl ?_ ?_ ?_ (fun _ _ _ h => h) (Or.inl ⟨by rfl, ?_⟩) ?_; (· decide +kernel); (· decide +kernel); (· decide +kernel); (· (intro w; go_simp))) | (refine wpAny_take (i := 10) (v := .func (.func 85) #[.pointer (some ⟨R, 0, none⟩)] #[]) rfl ?_ ?_ ?_ (fun _ _ _ h => h) (Or.inl ⟨by rfl, ?_⟩) ?_; (· decide +kernel); (· decide +kernel); (· decide +kernel); (· (intro w; go_simp))))
        refine wpAny_ready (rs := [5, 17]) (by decide +kernel) (by simp) ?_
        refine AllReady.cons rfl (fun K hK => ?_) (AllReady.cons rfl (fun K hK => ?_) AllReady.nil)
        · go_simp
          refine (rsaved_any _ R T bs1 bad1 (by omega) (by exact hrd1) C1.head).mono ?_
          rintro e w2 ⟨x2, cs2, bs2, rfl, hv2, hrd2, hg2, hl2, hh2⟩
          obtain ⟨_, C2⟩ := C1.step hh2.out
          clear hh2
          obtain ⟨A1, c1, vs1, A2, c2, vs2, rfl, _⟩ := id hv2
          obtain ⟨sa, ss, si⟩ := x2
          simp only at hv2
          have sv2 : SvCells 41 w2 (fun b => w1.heap.size ≤ b ∧ b < w2.heap.size) [.string sa, .slice A1 ss.length c1, .slice A2 si.length c2] ⟨sa, ss, si⟩ := (SvCells.stable 41).imp hv2 fun b hb hl => ⟨by simpa using hb, hl⟩
          clear hv2
          have K2 : W0.grownBy w2 (some R) := grownBy_trans (by exact K1) hg2
          have q2 := K2.size
          have r2 := hrd2.lt
          have s2 : w1.heap.size ≤ w2.heap.size := by have := hg2.size; (try simp at this); omega
          try dsimp only
          refine hK _ _ ?_
          clear hK K
          repeat (first | (refine wpAny_take (i := 0) (v := .pointer (some ⟨R, 0, none⟩)) rfl ?_ ?_ ?_ (fun _ _ _ h => h) (Or.inl ⟨by rfl, ?_⟩) ?_; (· decide +kernel); (· decide +kernel); (· decide +kernel); (· (intro w; go_simp))) | (refine wpAny_take (i := 1) (v := .pointer (some ⟨R, 0, none⟩)) rfl ?_ ?_ ?_ (fun _ _ _ h => h) (Or.inl ⟨by rfl, ?_⟩) ?_; (· decide +kernel); (· decide +kernel); (· decide +kernel); (· (intro w; go_simp))) | (refine wpAny_take (i := 2) (v := .pointer (some ⟨R, 0, none⟩)) rfl ?_ ?_ ?_ (fun _ _ _ h => h) (Or.inl ⟨by rfl, ?_⟩) ?_; (· decide +kernel); (· decide +kernel); (· decide +kernel); (· (intro w; go_simp))) | (refine wpAny_take (i := 4) (v := .pointer (some ⟨R, 0, none⟩)) rfl ?_ ?_ ?_ (fun _ _ _ h => h) (Or.inl ⟨by rfl, ?_⟩) ?_; (· decide +kernel); (· decide +kernel); (· decide +kernel); (· (intro w; go_simp))) | (refine wpAny_take (i := 6) (v := .pointer (some ⟨R, 0, none⟩)) rfl ?_ ?_ ?_ (fun _ _ _ h => h) (Or.inl ⟨by rfl, ?_⟩) ?_; (· decide +kernel); (· decide +kernel); (· decide +kernel); (· (intro w; go_simp))) | (refine wpAny_take (i := 7) (v := .pointer (some ⟨R, 0, none⟩)) rfl ?_ ?_ ?_ (fun _ _ _ h => h) (Or.inl ⟨by rfl, ?_⟩) ?_; (· decide +kernel); (· decide +kernel); (· decide +kernel); (· (intro w; go_simp))) | (refine wpAny_take (i := 8) (v := .pointer (some ⟨R, 0, none⟩)) rfl ?_ ?_ ?_ (fun _ _ _ h => h) (Or.inl ⟨by rfl, ?_⟩) ?_; (· decide +kernel); (· decide +kernel); (· decide +kernel); (· (intro w; go_simp))) | (refine wpAny_take (i := 9) (v := .pointer (some ⟨R, 0, none⟩)) rfl ?_ ?_ ?_ (fun _ _ _ h => h) (Or.inl ⟨by rfl, ?_⟩) ?_; (· decide +kernel); (· decide +kernel); (· decide +kernel); (· (intro w; go_simp))) | (refine wpAny_take (i := 12) (v := .pointer (some ⟨R, 0, none⟩)) rfl ?_ ?_ ?_ (fun _ _ _ h => h) (Or.inl ⟨by rfl, ?_⟩) ?_; (· decide +kernel); (· decide +kernel); (· decide +kernel); (· (intro w; go_simp))) | (refine wpAny_take (i := 13) (v := .pointer (some ⟨R, 0, none⟩)) rfl ?_ ?_ ?_ (fun _ _ _ h => h) (Or.inl ⟨by rfl, ?_⟩) ?_; (· decide +kernel); (· decide +kernel); (· decide +kernel); (· (intro w; go_simp))) | (refine wpAny_take (i := 14) (v := .pointer (some ⟨R, 0, none⟩)) rfl ?_ ?_ ?_ (fun _ _ _ h => h) (Or.inl ⟨by rfl, ?_⟩) ?_; (· decide +kernel); (· decide +kernel); (· decide +kernel); (· (intro w; go_simp))) | (refine wpAny_take (i := 10) (v := .func (.func 85) #[.pointer (some ⟨R, 0, none⟩)] #[]) rfl ?_ ?_ ?_ (fun _ _ _ h => h) (Or.inl ⟨by rfl, ?_⟩) ?_; (· decide +kernel); (· decide +kernel); (· decide +kernel); (· (intro w; go_simp))))
          refine wpAny_ready (rs := [11, 17]) (by decide +kernel) (by simp) ?_
          refine AllReady.cons rfl (fun K hK => ?_) (AllReady.cons rfl (fun K hK => ?_) AllReady.nil)
          · go_simp
            refine (someLe_any _ R T bs2 bad1 (by omega) (by exact hrd2) C2.head).mono ?_
            rintro e w3 ⟨l3, A3, c3, bs3, rfl, ho3, hll3, hrd3, hg3, hl3, hh3⟩
            obtain ⟨_, C3⟩ := C2.step hh3.out
            clear hh3
            obtain ⟨vs3, _, hc3, hm3, hr3, ha3⟩ := ho3.reads (LCells.stable 41) (by omega)
            have b3 : BoxAt w3 (fun b => w2.heap.size ≤ b ∧ b < w3.heap.size) A3 l3 := ⟨vs3, hr3.imp (by omega) fun b hb hl => ⟨by simpa using hb, hl⟩, ha3.imp fun _ _ h => (LCells.stable 41).imp h fun b hb hl => ⟨by simpa using hb, hl⟩⟩
            have sv3 := (SvCells.stable 41).keep sv2 (w' := w3) (fun b hb hl => by have h := hg3.block b (by first | omega | (simp; omega)) (by first | omega | (simp; omega)); first | exact h | (rw [h]; exact Below.heap_alloc _ _ b hl))
            clear sv2 ho3 hr3 ha3
            have K3 : W0.grownBy w3 (some R) := grownBy_trans (by exact K2) hg3
            have q3 := K3.size
            have r3 := hrd3.lt
            have s3 : w2.heap.size ≤ w3.heap.size := by have := hg3.size; (try simp at this); omega
            try dsimp only
            refine hK _ _ ?_
            clear hK K
            repeat (first | (refine wpAny_take (i := 0) (v := .pointer (some ⟨R, 0, none⟩)) rfl ?_ ?_ ?_ (fun _ _ _ h => h) (Or.inl ⟨by rfl, ?_⟩) ?_; (· decide +kernel); (· decide +kernel); (· decide +kernel); (· (intro w; go_simp))) | (refine wpAny_take (i := 1) (v := .pointer (some ⟨R, 0, none⟩)) rfl ?_ ?_ ?_ (fun _ _ _ h => h) (Or.inl ⟨by rfl, ?_⟩) ?_; (· decide +kernel); (· decide +kernel); (· decide +kernel); (· (intro w; go_simp))) | (refine wpAny_take (i := 2) (v := .pointer (some ⟨R, 0, none⟩)) rfl ?_ ?_ ?_ (fun _ _ _ h => h) (Or.inl ⟨by rfl, ?_⟩) ?_; (· decide +kernel); (· decide +kernel); (· decide +kernel); (· (intro w; go_simp))) | (refine wpAny_take (i := 4) (v := .pointer (some ⟨R, 0, none⟩)) rfl ?_ ?_ ?_ (fun _ _ _ h => h) (Or.inl ⟨by rfl, ?_⟩) ?_; (· decide +kernel); (· decide +kernel); (· decide +kernel); (· (intro w; go_simp))) | (refine wpAny_take (i := 6) (v := .pointer (some ⟨R, 0, none⟩)) rfl ?_ ?_ ?_ (fun _ _ _ h => h) (Or.inl ⟨by rfl, ?_⟩) ?_; (· decide +kernel); (· decide +kernel); (· decide +kernel); (· (intro w; go_simp))) | (refine wpAny_take (i := 7) (v := .pointer (some ⟨R, 0, none⟩)) rfl ?_ ?_ ?_ (fun _ _ _ h => h) (Or.inl ⟨by rfl, ?_⟩) ?_; (· decide +kernel); (· decide +kernel); (· decide +kernel); (· (intro w; go_simp))) | (refine wpAny_take (i := 8) (v := .pointer (some ⟨R, 0, none⟩)) rfl ?_ ?_ ?_ (fun _ _ _ h => h) (Or.inl ⟨by rfl, ?_⟩) ?_; (· decide +kernel); (· decide +kernel); (· decide +kernel); (· (intro w; go_simp))) | (refine wpAny_take (i := 9) (v := .pointer (some ⟨R, 0, none⟩)) rfl ?_ ?_ ?_ (fun _ _ _ h => h) (Or.inl ⟨by rfl, ?_⟩) ?_; (· decide +kernel); (· decide +kernel); (· decide +kernel); (· (intro w; go_simp))) | (refine wpAny_take (i := 12) (v := .pointer (some ⟨R, 0, none⟩)) rfl ?_ ?_ ?_ (fun _ _ _ h => h) (Or.inl ⟨by rfl, ?_⟩) ?_; (· decide +kernel); (· decide +kernel); (· decide +kernel); (· (intro w; go_simp))) | (refine wpAny_take (i := 13) (v := .pointer (some ⟨R, 0, none⟩)) rfl ?_ ?_ ?_ (fun _ _ _ h => h) (Or.inl ⟨by rfl, ?_⟩) ?_; (· decide +kernel); (· decide +kernel); (· decide +kernel); (· (intro w; go_simp))) | (refine wpAny_take (i := 14) (v := .pointer (some ⟨R, 0, none⟩)) rfl ?_ ?_ ?_ (fun _ _ _ h => h) (Or.inl ⟨by rfl, ?_⟩) ?_; (· decide +kernel); (· decide +kernel); (· decide +kernel); (· (intro w; go_simp))) | (refine wpAny_take (i := 10) (v := .func (.func 85) #[.pointer (some ⟨R, 0, none⟩)] #[]) rfl ?_ ?_ ?_ (fun _ _ _ h => h) (Or.inl ⟨by rfl, ?_⟩) ?_; (· decide +kernel); (· decide +kernel); (· decide +kernel); (· (intro w; go_simp))))
            refine wpAny_ready (rs := [15, 17]) (by decide +kernel) (by simp) ?_
            refine AllReady.cons rfl (fun K hK => ?_) (AllReady.cons rfl (fun K hK => ?_) AllReady.nil)
            · go_simp
              refine (rint_any _ R T [.int .i64 0] bs3 bad1 (by exact hrd3)).mono ?_
              rintro e w4 ⟨v4, x4, bs4, bad4, rfl, ⟨rfl, hn4⟩, hrd4, hg4, hl4, hh4⟩
              obtain ⟨hb4, C4⟩ := C3.step hh4.out
              subst hb4
              clear hh4
              have sv4 := (SvCells.stable 41).keep sv3 (w' := w4) (fun b hb hl => by have h := hg4.block b (by first | omega | (simp; omega)) (by first | omega | (simp; omega)); first | exact h | (rw [h]; exact Below.heap_alloc _ _ b hl))
              have b4 := b3.keep (w' := w4) (fun b hb hl => by have h := hg4.block b (by first | omega | (simp; omega)) (by first | omega | (simp; omega)); first | exact h | (rw [h]; exact Below.heap_alloc _ _ b hl))
              clear sv3 b3
              have K4 : W0.grownBy w4 (some R) := grownBy_trans (by exact K3) hg4
              have q4 := K4.size
              have r4 := hrd4.lt
              have s4 : w3.heap.size ≤ w4.heap.size := by have := hg4.size; (try simp at this); omega
              try dsimp only
              refine hK _ _ ?_
              clear hK K
              repeat (first | (refine wpAny_take (i := 16) (v := .agg #[.int .i64 (x1 : Int), .string sa, .slice A1 ss.length c1, .slice A2 si.length c2, .slice A3 l3.length c3, .int .i64 x4, .slice none 0 0, .slice none 0 0]) rfl ?_ ?_ ?_ (fun _ _ _ h => h) (Or.inl ⟨by rfl, ?_⟩) ?_; (· decide +kernel); (· decide +kernel); (· decide +kernel); (· (intro w; go_simp))))
              refine wpAny_ready (rs := [17]) (by decide +kernel) (by simp) ?_
              refine AllReady.cons rfl (fun K hK => ?_) AllReady.nil
              go_simp
              refine hK _ _ ?_
              clear hK K
              refine wpAny_ready (rs := [18]) (by decide +kernel) (by simp) ?_
              refine AllReady.cons rfl (fun K hK => ?_) AllReady.nil
              go_simp
              refine hK _ _ ?_
              clear hK K
              refine wpAny_done (by decide +kernel) ?_ _
              go_wp2_with (fail)
              go_meet
              have hz4 := hB0.grown K4 (by simp; omega)
              have hG4 := grownBy_trans hG0 K4
              exact midP_new (fun b hb => by omega) (fun b hb => by omega) sv4 b4 hn1 hn4 hll3 hc3 hm3 hz4 hrd4 hG4 (by omega) E1 C4
            · go_simp
              refine hK _ _ ?_
              clear hK K
              repeat (first | (refine wpAny_take (i := 0) (v := .pointer (some ⟨R, 0, none⟩)) rfl ?_ ?_ ?_ (fun _ _ _ h => h) (Or.inl ⟨by rfl, ?_⟩) ?_; (· decide +kernel); (· decide +kernel); (· decide +kernel); (· (intro w; go_simp))) | (refine wpAny_take (i := 1) (v := .pointer (some ⟨R, 0, none⟩)) rfl ?_ ?_ ?_ (fun _ _ _ h => h) (Or.inl ⟨by rfl, ?_⟩) ?_; (· decide +kernel); (· decide +kernel); (· decide +kernel); (· (intro w; go_simp))) | (refine wpAny_take (i := 2) (v := .pointer (some ⟨R, 0, none⟩)) rfl ?_ ?_ ?_ (fun _ _ _ h => h) (Or.inl ⟨by rfl, ?_⟩) ?_; (· decide +kernel); (· decide +kernel); (· decide +kernel); (· (intro w; go_simp))) | (refine wpAny_take (i := 4) (v := .pointer (some ⟨R, 0, none⟩)) rfl ?_ ?_ ?_ (fun _ _ _ h => h) (Or.inl ⟨by rfl, ?_⟩) ?_; (· decide +kernel); (· decide +kernel); (· decide +kernel); (· (intro w; go_simp))) | (refine wpAny_take (i := 6) (v := .pointer (some ⟨R, 0, none⟩)) rfl ?_ ?_ ?_ (fun _ _ _ h => h) (Or.inl ⟨by rfl, ?_⟩) ?_; (· decide +kernel); (· decide +kernel); (· decide +kernel); (· (intro w; go_simp))) | (refine wpAny_take (i := 7) (v := .pointer (some ⟨R, 0, none⟩)) rfl ?_ ?_ ?_ (fun _ _ _ h => h) (Or.inl ⟨by rfl, ?_⟩) ?_; (· decide +kernel); (· decide +kernel); (· decide +kernel); (· (intro w; go_simp))) | (refine wpAny_take (i := 8) (v := .pointer (some ⟨R, 0, none⟩)) rfl ?_ ?_ ?_ (fun _ _ _ h => h) (Or.inl ⟨by rfl, ?_⟩) ?_; (· decide +kernel); (· decide +kernel); (· decide +kernel); (· (intro w; go_simp))) | (refine wpAny_take (i := 9) (v := .pointer (some ⟨R, 0, none⟩)) rfl ?_ ?_ ?_ (fun _ _ _ h => h) (Or.inl ⟨by rfl, ?_⟩) ?_; (· decide +kernel); (· decide +kernel); (· decide +kernel); (· (intro w; go_simp))) | (refine wpAny_take (i := 12) (v := .pointer (some ⟨R, 0, none⟩)) rfl ?_ ?_ ?_ (fun _ _ _ h => h) (Or.inl ⟨by rfl, ?_⟩) ?_; (· decide +kernel); (· decide +kernel); (· decide +kernel); (· (intro w; go_simp))) | (refine wpAny_take (i := 13) (v := .pointer (some ⟨R, 0, none⟩)) rfl ?_ ?_ ?_ (fun _ _ _ h => h) (Or.inl ⟨by rfl, ?_⟩) ?_; (· decide +kernel); (· decide +kernel); (· decide +kernel); (· (intro w; go_simp))) | (refine wpAny_take (i := 14) (v := .pointer (some ⟨R, 0, none⟩)) rfl ?_ ?_ ?_ (fun _ _ _ h => h) (Or.inl ⟨by rfl, ?_⟩) ?_; (· decide +kernel); (· decide +kernel); (· decide +kernel); (· (intro w; go_simp))) | (refine wpAny_take (i := 10) (v := .func (.func 85) #[.pointer (some ⟨R, 0, none⟩)] #[]) rfl ?_ ?_ ?_ (fun _ _ _ h => h) (Or.inl ⟨by rfl, ?_⟩) ?_; (· decide +kernel); (· decide +kernel); (· decide +kernel); (· (intro w; go_simp))))
              refine wpAny_ready (rs := [15]) (by decide +kernel) (by simp) ?_
              refine AllReady.cons rfl (fun K hK => ?_) AllReady.nil
              go_simp
              refine (rint_any _ R T [.int .i64 0] bs3 bad1 (by exact hrd3.alloc _)).mono ?_
              rintro e w4 ⟨v4, x4, bs4, bad4, rfl, ⟨rfl, hn4⟩, hrd4, hg4, hl4, hh4⟩
              obtain ⟨hb4, C4⟩ := C3.step hh4.out
              subst hb4
              clear hh4
              have sv4 := (SvCells.stable 41).keep sv3 (w' := w4) (fun b hb hl => by have h := hg4.block b (by first | omega | (simp; omega)) (by first | omega | (simp; omega)); first | exact h | (rw [h]; exact Below.heap_alloc _ _ b hl))
              have b4 := b3.keep (w' := w4) (fun b hb hl => by have h := hg4.block b (by first | omega | (simp; omega)) (by first | omega | (simp; omega)); first | exact h | (rw [h]; exact Below.heap_alloc _ _ b hl))
              clear sv3 b3
              have K4 : W0.grownBy w4 (some R) := grownBy_trans (by exact (grownBy_alloc K3 _)) hg4
              have q4 := K4.size
              have r4 := hrd4.lt
              have s4 : w3.heap.size + 1 ≤ w4.heap.size := by have := hg4.size; (try simp at this); omega
              have hB4 : Blk w4 w3.heap.size 48 [.int .i64 0, .string ⟨#[]⟩, .slice none 0 0, .slice none 0 0, .slice none 0 0, .int .i64 0, .slice none 0 0, .slice none 0 0] := Blk.grown (by exact ZZ.out w3) hg4 (by simp; omega)
              have k0 := hB4.cell 0
              have j0 := hB4.frozen 0
              have k1 := hB4.cell 1
              have j1 := hB4.frozen 1
              have k2 := hB4.cell 2
              have j2 := hB4.frozen 2
              have k3 := hB4.cell 3
              have j3 := hB4.frozen 3
              have k4 := hB4.cell 4
              have j4 := hB4.frozen 4
              have k5 := hB4.cell 5
              have j5 := hB4.frozen 5
              have k6 := hB4.cell 6
              have j6 := hB4.frozen 6
              have k7 := hB4.cell 7
              have j7 := hB4.frozen 7
              have jl := hB4.lt
              simp only [List.getElem?_cons_succ, List.getElem?_cons_zero] at k0 k1 k2 k3 k4 k5 k6 k7
              try dsimp only
              refine hK _ _ ?_
              clear hK K
              repeat (first | (refine wpAny_take (i := 16) (v := .agg #[.int .i64 (x1 : Int), .string sa, .slice A1 ss.length c1, .slice A2 si.length c2, .slice A3 l3.length c3, .int .i64 x4, .slice none 0 0, .slice none 0 0]) rfl ?_ ?_ ?_ (fun _ _ _ h => h) (Or.inl ⟨by rfl, ?_⟩) ?_; (· decide +kernel); (· decide +kernel); (· decide +kernel); (· (intro w; go_simp))))
              refine wpAny_ready (rs := [18]) (by decide +kernel) (by simp) ?_
              refine AllReady.cons rfl (fun K hK => ?_) AllReady.nil
              go_simp
              refine hK _ _ ?_
              clear hK K
              refine wpAny_done (by decide +kernel) ?_ _
              go_wp2_with (fail)
              go_meet
              have hz4 := hB0.grown K4 (by simp; omega)
              have hG4 := grownBy_trans hG0 K4
              exact midP_set hB4 (by omega) l1 (fun b hb => by omega) (fun b hb => by omega) sv4 b4 hn1 hn4 hll3 hc3 hm3 hz4 hrd4 hG4 (by omega) E1 C4
          · go_simp
            refine hK _ _ ?_
            clear hK K
            repeat (first | (refine wpAny_take (i := 0) (v := .pointer (some ⟨R, 0, none⟩)) rfl ?_ ?_ ?_ (fun _ _ _ h => h) (Or.inl ⟨by rfl, ?_⟩) ?_; (· decide +kernel); (· decide +kernel); (· decide +kernel); (· (intro w; go_simp))) | (refine wpAny_take (i := 1) (v := .pointer (some ⟨R, 0, none⟩)) rfl ?_ ?_ ?_ (fun _ _ _ h => h) (Or.inl ⟨by rfl, ?_⟩) ?_; (· decide +kernel); (· decide +kernel); (· decide +kernel); (· (intro w; go_simp))) | (refine wpAny_take (i := 2) (v := .pointer (some ⟨R, 0, none⟩)) rfl ?_ ?_ ?_ (fun _ _ _ h => h) (Or.inl ⟨by rfl, ?_⟩) ?_; (· decide +kernel); (· decide +kernel); (· decide +kernel); (· (intro w; go_simp))) | (refine wpAny_take (i := 4) (v := .pointer (some ⟨R, 0, none⟩)) rfl ?_ ?_ ?_ (fun _ _ _ h => h) (Or.inl ⟨by rfl, ?_⟩) ?_; (· decide +kernel); (· decide +kernel); (· decide +kernel); (· (intro w; go_simp))) | (refine wpAny_take (i := 6) (v := .pointer (some ⟨R, 0, none⟩)) rfl ?_ ?_ ?_ (fun _ _ _ h => h) (Or.inl ⟨by rfl, ?_⟩) ?_; (· decide +kernel); (· decide +kernel); (· decide +kernel); (· (intro w; go_simp))) | (refine wpAny_take (i := 7) (v := .pointer (some ⟨R, 0, none⟩)) rfl ?_ ?_ ?_ (fun _ _ _ h => h) (Or.inl ⟨by rfl, ?_⟩) ?_; (· decide +kernel); (· decide +kernel); (· decide +kernel); (· (intro w; go_simp))) | (refine wpAny_take (i := 8) (v := .pointer (some ⟨R, 0, none⟩)) rfl ?_ ?_ ?_ (fun _ _ _ h => h) (Or.inl ⟨by rfl, ?_⟩) ?_; (· decide +kernel); (· decide +kernel); (· decide +kernel); (· (intro w; go_simp))) | (refine wpAny_take (i := 9) (v := .pointer (some ⟨R, 0, none⟩)) rfl ?_ ?_ ?_ (fun _ _ _ h => h) (Or.inl ⟨by rfl, ?_⟩) ?_; (· decide +kernel); (· decide +kernel); (· decide +kernel); (· (intro w; go_simp))) | (refine wpAny_take (i := 12) (v := .pointer (some ⟨R, 0, none⟩)) rfl ?_ ?_ ?_ (fun _ _ _ h => h) (Or.inl ⟨by rfl, ?_⟩) ?_; (· decide +kernel); (· decide +kernel); (· decide +kernel); (· (intro w; go_simp))) | (refine wpAny_take (i := 13) (v := .pointer (some ⟨R, 0, none⟩)) rfl ?_ ?_ ?_ (fun _ _ _ h => h) (Or.inl ⟨by rfl, ?_⟩) ?_; (· decide +kernel); (· decide +kernel); (· decide +kernel); (· (intro w; go_simp))) | (refine wpAny_take (i := 14) (v := .pointer (some ⟨R, 0, none⟩)) rfl ?_ ?_ ?_ (fun _ _ _ h => h) (Or.inl ⟨by rfl, ?_⟩) ?_; (· decide +kernel); (· decide +kernel); (· decide +kernel); (· (intro w; go_simp))) | (refine wpAny_take (i := 10) (v := .func (.func 85) #[.pointer (some ⟨R, 0, none⟩)] #[]) rfl ?_ ?_ ?_ (fun _ _ _ h => h) (Or.inl ⟨by rfl, ?_⟩) ?_; (· decide +kernel); (· decide +kernel); (· decide +kernel); (· (intro w; go_simp))))
            refine wpAny_ready (rs := [11]) (by decide +kernel) (by simp) ?_
            refine AllReady.cons rfl (fun K hK => ?_) AllReady.nil
            go_simp
            refine (someLe_any _ R T bs2 bad1 (by omega) (by exact hrd2.alloc _) C2.head).mono ?_
            rintro e w3 ⟨l3, A3, c3, bs3, rfl, ho3, hll3, hrd3, hg3, hl3, hh3⟩
            obtain ⟨_, C3⟩ := C2.step hh3.out
            clear hh3
            obtain ⟨vs3, _, hc3, hm3, hr3, ha3⟩ := ho3.reads (LCells.stable 41) (by omega)
            have b3 : BoxAt w3 (fun b => w2.heap.size + 1 ≤ b ∧ b < w3.heap.size) A3 l3 := ⟨vs3, hr3.imp (by omega) fun b hb hl => ⟨by simpa using hb, hl⟩, ha3.imp fun _ _ h => (LCells.stable 41).imp h fun b hb hl => ⟨by simpa using hb, hl⟩⟩
            have sv3 := (SvCells.stable 41).keep sv2 (w' := w3) (fun b hb hl => by have h := hg3.block b (by first | omega | (simp; omega)) (by first | omega | (simp; omega)); first | exact h | (rw [h]; exact Below.heap_alloc _ _ b hl))
            clear sv2 ho3 hr3 ha3
            have K3 : W0.grownBy w3 (some R) := grownBy_trans (by exact (grownBy_alloc K2 _)) hg3
            have q3 := K3.size
            have r3 := hrd3.lt
            have s3 : w2.heap.size + 1 ≤ w3.heap.size := by have := hg3.size; (try simp at this); omega
            have hB3 : Blk w3 w2.heap.size 48 [.int .i64 0, .string ⟨#[]⟩, .slice none 0 0, .slice none 0 0, .slice none 0 0, .int .i64 0, .slice none 0 0, .slice none 0 0] := Blk.grown (by exact ZZ.out w2) hg3 (by simp; omega)
            try dsimp only
            refine hK _ _ ?_
            clear hK K
            repeat (first | (refine wpAny_take (i := 0) (v := .pointer (some ⟨R, 0, none⟩)) rfl ?_ ?_ ?_ (fun _ _ _ h => h) (Or.inl ⟨by rfl, ?_⟩) ?_; (· decide +kernel); (· decide +kernel); (· decide +kernel); (· (intro w; go_simp))) | (refine wpAny_take (i := 1) (v := .pointer (some ⟨R, 0, none⟩)) rfl ?_ ?_ ?_ (fun _ _ _ h => h) (Or.inl ⟨by rfl, ?_⟩) ?_; (· decide +kernel); (· decide +kernel); (· decide +kernel); (· (intro w; go_simp))) | (refine wpAny_take (i := 2) (v := .pointer (some ⟨R, 0, none⟩)) rfl ?_ ?_ ?_ (fun _ _ _ h => h) (Or.inl ⟨by rfl, ?_⟩) ?_; (· decide +kernel); (· decide +kernel); (· decide +kernel); (· (intro w; go_simp))) | (refine wpAny_take (i := 4) (v := .pointer (some ⟨R, 0, none⟩)) rfl ?_ ?_ ?_ (fun _ _ _ h => h) (Or.inl ⟨by rfl, ?_⟩) ?_; (· decide +kernel); (· decide +kernel); (· decide +kernel); (· (intro w; go_simp))) | (refine wpAny_take (i := 6) (v := .pointer (some ⟨R, 0, none⟩)) rfl ?_ ?_ ?_ (fun _ _ _ h => h) (Or.inl ⟨by rfl, ?_⟩) ?_; (· decide +kernel); (· decide +kernel); (· decide +kernel); (· (intro w; go_simp))) | (refine wpAny_take (i := 7) (v := .pointer (some ⟨R, 0, none⟩)) rfl ?_ ?_ ?_ (fun _ _ _ h => h) (Or.inl ⟨by rfl, ?_⟩) ?_; (· decide +kernel); (· decide +kernel); (· decide +kernel); (· (intro w; go_simp))) | (refine wpAny_take (i := 8) (v := .pointer (some ⟨R, 0, none⟩)) rfl ?_ ?_ ?_ (fun _ _ _ h => h) (Or.inl ⟨by rfl, ?_⟩) ?_; (· decide +kernel); (· decide +kernel); (· decide +kernel); (· (intro w; go_simp))) | (refine wpAny_take (i := 9) (v := .pointer (some ⟨R, 0, none⟩)) rfl ?_ ?_ ?_ (fun _ _ _ h => h) (Or.inl ⟨by rfl, ?_⟩) ?_; (· decide +kernel); (· decide +kernel); (· decide +kernel); (· (intro w; go_simp))) | (refine wpAny_take (i := 12) (v := .pointer (some ⟨R, 0, none⟩)) rfl ?_ ?_ ?_ (fun _ _ _ h => h) (Or.inl ⟨by rfl, ?_⟩) ?_; (· decide +kernel); (· decide +kernel); (· decide +kernel); (· (intro w; go_simp))) | (refine wpAny_take (i := 13) (v := .pointer (some ⟨R, 0, none⟩)) rfl ?_ ?_ ?_ (fun _ _ _ h => h) (Or.inl ⟨by rfl, ?_⟩) ?_; (· decide +kernel); (· decide +kernel); (· decide +kernel); (· (intro w; go_simp))) | (refine wpAny_take (i := 14) (v := .pointer (some ⟨R, 0, none⟩)) rfl ?_ ?_ ?_ (fun _ _ _ h => h) (Or.inl ⟨by rfl, ?_⟩) ?_; (· decide +kernel); (· decide +kernel); (· decide +kernel); (· (intro w; go_simp))) | (refine wpAny_take (i := 10) (v := .func (.func 85) #[.pointer (some ⟨R, 0, none⟩)] #[]) rfl ?_ ?_ ?_ (fun _ _ _ h => h) (Or.inl ⟨by rfl, ?_⟩) ?_; (· decide +kernel); (· decide +kernel); (· decide +kernel); (· (intro w; go_simp))))
            refine wpAny_ready (rs := [15]) (by decide +kernel) (by simp) ?_
            refine AllReady.cons rfl (fun K hK => ?_) AllReady.nil
            go_simp
            refine (rint_any _ R T [.int .i64 0] bs3 bad1 (by exact hrd3)).mono ?_
            rintro e w4 ⟨v4, x4, bs4, bad4, rfl, ⟨rfl, hn4⟩, hrd4, hg4, hl4, hh4⟩
            obtain ⟨hb4, C4⟩ := C3.step hh4.out
            subst hb4
            clear hh4
            have sv4 := (SvCells.stable 41).keep sv3 (w' := w4) (fun b hb hl => by have h := hg4.block b (by first | omega | (simp; omega)) (by first | omega | (simp; omega)); first | exact h | (rw [h]; exact Below.heap_alloc _ _ b hl))
            have b4 := b3.keep (w' := w4) (fun b hb hl => by have h := hg4.block b (by first | omega | (simp; omega)) (by first | omega | (simp; omega)); first | exact h | (rw [h]; exact Below.heap_alloc _ _ b hl))
            clear sv3 b3
            have K4 : W0.grownBy w4 (some R) := grownBy_trans (by exact K3) hg4
            have q4 := K4.size
            have r4 := hrd4.lt
            have s4 : w3.heap.size ≤ w4.heap.size := by have := hg4.size; (try simp at this); omega
            have hB4 : Blk w4 w2.heap.size 48 [.int .i64 0, .string ⟨#[]⟩, .slice none 0 0, .slice none 0 0, .slice none 0 0, .int .i64 0, .slice none 0 0, .slice none 0 0] := Blk.grown hB3 hg4 (by simp; omega)
            have k0 := hB4.cell 0
            have j0 := hB4.frozen 0
            have k1 := hB4.cell 1
            have j1 := hB4.frozen 1
            have k2 := hB4.cell 2
            have j2 := hB4.frozen 2
            have k3 := hB4.cell 3
            have j3 := hB4.frozen 3
            have k4 := hB4.cell 4
            have j4 := hB4.frozen 4
            have k5 := hB4.cell 5
            have j5 := hB4.frozen 5
            have k6 := hB4.cell 6
            have j6 := hB4.frozen 6
            have k7 := hB4.cell 7
            have j7 := hB4.frozen 7
            have jl := hB4.lt
            simp only [List.getElem?_cons_succ, List.getElem?_cons_zero] at k0 k1 k2 k3 k4 k5 k6 k7
            try dsimp only
            refine hK _ _ ?_
            clear hK K
            repeat (first | (refine wpAny_take (i := 16) (v := .agg #[.int .i64 (x1 : Int), .string sa, .slice A1 ss.length c1, .slice A2 si.length c2, .slice A3 l3.length c3, .int .i64 x4, .slice none 0 0, .slice none 0 0]) rfl ?_ ?_ ?_ (fun _ _ _ h => h) (Or.inl ⟨by rfl, ?_⟩) ?_; (· decide +kernel); (· decide +kernel); (· decide +kernel); (· (intro w; go_simp))))
            refine wpAny_ready (rs := [18]) (by decide +kernel) (by simp) ?_
            refine AllReady.cons rfl (fun K hK => ?_) AllReady.nil
            go_simp
            refine hK _ _ ?_
            clear hK K
            refine wpAny_done (by decide +kernel) ?_ _
            go_wp2_with (fail)
            go_meet
            have hz4 := hB0.grown K4 (by simp; omega)
            have hG4 := grownBy_trans hG0 K4
            exact midP_set hB4 (by omega) l1 (fun b hb => by omega) (fun b hb => by omega) sv4 b4 hn1 hn4 hll3 hc3 hm3 hz4 hrd4 hG4 (by omega) E1 C4
        · go_simp
          refine hK _ _ ?_
          clear hK K
          repeat (first | (refine wpAny_take (i := 0) (v := .pointer (some ⟨R, 0, none⟩)) rfl ?_ ?_ ?_ (fun _ _ _ h => h) (Or.inl ⟨by rfl, ?_⟩) ?_; (· decide +kernel); (· decide +kernel); (· decide +kernel); (· (intro w; go_simp))) | (refine wpAny_take (i := 1) (v := .pointer (some ⟨R, 0, none⟩)) rfl ?_ ?_ ?_ (fun _ _ _ h => h) (Or.inl ⟨by rfl, ?_⟩) ?_; (· decide +kernel); (· decide +kernel); (· decide +kernel); (· (intro w; go_simp))) | (refine wpAny_take (i := 2) (v := .pointer (some ⟨R, 0, none⟩)) rfl ?_ ?_ ?_ (fun _ _ _ h => h) (Or.inl ⟨by rfl, ?_⟩) ?_; (· decide +kernel); (· decide +kernel); (· decide +kernel); (· (intro w; go_simp))) | (refine wpAny_take (i := 4) (v := .pointer (some ⟨R, 0, none⟩)) rfl ?_ ?_ ?_ (fun _ _ _ h => h) (Or.inl ⟨by rfl, ?_⟩) ?_; (· decide +kernel); (· decide +kernel); (· decide +kernel); (· (intro w; go_simp))) | (refine wpAny_take (i := 6) (v := .pointer (some ⟨R, 0, none⟩)) rfl ?_ ?_ ?_ (fun _ _ _ h => h) (Or.inl ⟨by rfl, ?_⟩) ?_; (· decide +kernel); (· decide +kernel); (· decide +kernel); (· (intro w; go_simp))) | (refine wpAny_take (i := 7) (v := .pointer (some ⟨R, 0, none⟩)) rfl ?_ ?_ ?_ (fun _ _ _ h => h) (Or.inl ⟨by rfl, ?_⟩) ?_; (· decide +kernel); (· decide +kernel); (· decide +kernel); (· (intro w; go_simp))) | (refine wpAny_take (i := 8) (v := .pointer (some ⟨R, 0, none⟩)) rfl ?_ ?_ ?_ (fun _ _ _ h => h) (Or.inl ⟨by rfl, ?_⟩) ?_; (· decide +kernel); (· decide +kernel); (· decide +kernel); (· (intro w; go_simp))) | (refine wpAny_take (i := 9) (v := .pointer (some ⟨R, 0, none⟩)) rfl ?_ ?_ ?_ (fun _ _ _ h => h) (Or.inl ⟨by rfl, ?_⟩) ?_; (· decide +kernel); (· decide +kernel); (· decide +kernel); (· (intro w; go_simp))) | (refine wpAny_take (i := 12) (v := .pointer (some ⟨R, 0, none⟩)) rfl ?_ ?_ ?_ (fun _ _ _ h => h) (Or.inl ⟨by rfl, ?_⟩) ?_; (· decide +kernel); (· decide +kernel); (· decide +kernel); (· (intro w; go_simp))) | (refine wpAny_take (i := 13) (v := .pointer (some ⟨R, 0, none⟩)) rfl ?_ ?_ ?_ (fun _ _ _ h => h) (Or.inl ⟨by rfl, ?_⟩) ?_; (· decide +kernel); (· decide +kernel); (· decide +kernel); (· (intro w; go_simp))) | (refine wpAny_take (i := 14) (v := .pointer (some ⟨R, 0, none⟩)) rfl ?_ ?_ ?_ (fun _ _ _ h => h) (Or.inl ⟨by rfl, ?_⟩) ?_; (· decide +kernel); (· decide +kernel); (· decide +kernel); (· (intro w; go_simp))) | (refine wpAny_take (i := 10) (v := .func (.func 85) #[.pointer (some ⟨R, 0, none⟩)] #[]) rfl ?_ ?_ ?_ (fun _ _ _ h => h) (Or.inl ⟨by rfl, ?_⟩) ?_; (· decide +kernel); (· decide +kernel); (· decide +kernel); (· (intro w; go_simp))))
          refine wpAny_ready (rs := [5]) (by decide +kernel) (by simp) ?_
          refine AllReady.cons rfl (fun K hK => ?_) AllReady.nil
          go_simp
          refine (rsaved_any _ R T bs1 bad1 (by omega) (by exact hrd1.alloc _) C1.head).mono ?_
          rintro e w2 ⟨x2, cs2, bs2, rfl, hv2, hrd2, hg2, hl2, hh2⟩
          obtain ⟨_, C2⟩ := C1.step hh2.out
          clear hh2
          obtain ⟨A1, c1, vs1, A2, c2, vs2, rfl, _⟩ := id hv2
          obtain ⟨sa, ss, si⟩ := x2
          simp only at hv2
          have sv2 : SvCells 41 w2 (fun b => w1.heap.size + 1 ≤ b ∧ b < w2.heap.size) [.string sa, .slice A1 ss.length c1, .slice A2 si.length c2] ⟨sa, ss, si⟩ := (SvCells.stable 41).imp hv2 fun b hb hl => ⟨by simpa using hb, hl⟩
          clear hv2
          have K2 : W0.grownBy w2 (some R) := grownBy_trans (by exact (grownBy_alloc K1 _)) hg2
          have q2 := K2.size
          have r2 := hrd2.lt
          have s2 : w1.heap.size + 1 ≤ w2.heap.size := by have := hg2.size; (try simp at this); omega
          have hB2 : Blk w2 w1.heap.size 48 [.int .i64 0, .string ⟨#[]⟩, .slice none 0 0, .slice none 0 0, .slice none 0 0, .int .i64 0, .slice none 0 0, .slice none 0 0] := Blk.grown (by exact ZZ.out w1) hg2 (by simp; omega)
          try dsimp only
          refine hK _ _ ?_
          clear hK K
          repeat (first | (refine wpAny_take (i := 0) (v := .pointer (some ⟨R, 0, none⟩)) rfl ?_ ?_ ?_ (fun _ _ _ h => h) (Or.inl ⟨by rfl, ?_⟩) ?_; (· decide +kernel); (· decide +kernel); (· decide +kernel); (· (intro w; go_simp))) | (refine wpAny_take (i := 1) (v := .pointer (some ⟨R, 0, none⟩)) rfl ?_ ?_ ?_ (fun _ _ _ h => h) (Or.inl ⟨by rfl, ?_⟩) ?_; (· decide +kernel); (· decide +kernel); (· decide +kernel); (· (intro w; go_simp))) | (refine wpAny_take (i := 2) (v := .pointer (some ⟨R, 0, none⟩)) rfl ?_ ?_ ?_ (fun _ _ _ h => h) (Or.inl ⟨by rfl, ?_⟩) ?_; (· decide +kernel); (· decide +kernel); (· decide +kernel); (· (intro w; go_simp))) | (refine wpAny_take (i := 4) (v := .pointer (some ⟨R, 0, none⟩)) rfl ?_ ?_ ?_ (fun _ _ _ h => h) (Or.inl ⟨by rfl, ?_⟩) ?_; (· decide +kernel); (· decide +kernel); (· decide +kernel); (· (intro w; go_simp))) | (refine wpAny_take (i := 6) (v := .pointer (some ⟨R, 0, none⟩)) rfl ?_ ?_ ?_ (fun _ _ _ h => h) (Or.inl ⟨by rfl, ?_⟩) ?_; (· decide +kernel); (· decide +kernel); (· decide +kernel); (· (intro w; go_simp))) | (refine wpAny_take (i := 7) (v := .pointer (some ⟨R, 0, none⟩)) rfl ?_ ?_ ?_ (fun _ _ _ h => h) (Or.inl ⟨by rfl, ?_⟩) ?_; (· decide +kernel); (· decide +kernel); (· decide +kernel); (· (intro w; go_simp))) | (refine wpAny_take (i := 8) (v := .pointer (some ⟨R, 0, none⟩)) rfl ?_ ?_ ?_ (fun _ _ _ h => h) (Or.inl ⟨by rfl, ?_⟩) ?_; (· decide +kernel); (· decide +kernel); (· decide +kernel); (· (intro w; go_simp))) | (refine wpAny_take (i := 9) (v := .pointer (some ⟨R, 0, none⟩)) rfl ?_ ?_ ?_ (fun _ _ _ h => h) (Or.inl ⟨by rfl, ?_⟩) ?_; (· decide +kernel); (· decide +kernel); (· decide +kernel); (· (intro w; go_simp))) | (refine wpAny_take (i := 12) (v := .pointer (some ⟨R, 0, none⟩)) rfl ?_ ?_ ?_ (fun _ _ _ h => h) (Or.inl ⟨by rfl, ?_⟩) ?_; (· decide +kernel); (· decide +kernel); (· decide +kernel); (· (intro w; go_simp))) | (refine wpAny_take (i := 13) (v := .pointer (some ⟨R, 0, none⟩)) rfl ?_ ?_ ?_ (fun _ _ _ h => h) (Or.inl ⟨by rfl, ?_⟩) ?_; (· decide +kernel); (· decide +kernel); (· decide +kernel); (· (intro w; go_simp))) | (refine wpAny_take (i := 14) (v := .pointer (some ⟨R, 0, none⟩)) rfl ?_ ?_ ?_ (fun _ _ _ h => h) (Or.inl ⟨by rfl, ?_⟩) ?_; (· decide +kernel); (· decide +kernel); (· decide +kernel); (· (intro w; go_simp))) | (refine wpAny_take (i := 10) (v := .func (.func 85) #[.pointer (some ⟨R, 0, none⟩)] #[]) rfl ?_ ?_ ?_ (fun _ _ _ h => h) (Or.inl ⟨by rfl, ?_⟩) ?_; (· decide +kernel); (· decide +kernel); (· decide +kernel); (· (intro w; go_simp))))
          refine wpAny_ready (rs := [11]) (by decide +kernel) (by simp) ?_
          refine AllReady.cons rfl (fun K hK => ?_) AllReady.nil
          go_simp
          refine (someLe_any _ R T bs2 bad1 (by omega) (by exact hrd2) C2.head).mono ?_
          rintro e w3 ⟨l3, A3, c3, bs3, rfl, ho3, hll3, hrd3, hg3, hl3, hh3⟩
          obtain ⟨_, C3⟩ := C2.step hh3.out
          clear hh3
          obtain ⟨vs3, _, hc3, hm3, hr3, ha3⟩ := ho3.reads (LCells.stable 41) (by omega)
          have b3 : BoxAt w3 (fun b => w2.heap.size ≤ b ∧ b < w3.heap.size) A3 l3 := ⟨vs3, hr3.imp (by omega) fun b hb hl => ⟨by simpa using hb, hl⟩, ha3.imp fun _ _ h => (LCells.stable 41).imp h fun b hb hl => ⟨by simpa using hb, hl⟩⟩
          have sv3 := (SvCells.stable 41).keep sv2 (w' := w3) (fun b hb hl => by have h := hg3.block b (by first | omega | (simp; omega)) (by first | omega | (simp; omega)); first | exact h | (rw [h]; exact Below.heap_alloc _ _ b hl))
          clear sv2 ho3 hr3 ha3
          have K3 : W0.grownBy w3 (some R) := grownBy_trans (by exact K2) hg3
          have q3 := K3.size
          have r3 := hrd3.lt
          have s3 : w2.heap.size ≤ w3.heap.size := by have := hg3.size; (try simp at this); omega
          have hB3 : Blk w3 w1.heap.size 48 [.int .i64 0, .string ⟨#[]⟩, .slice none 0 0, .slice none 0 0, .slice none 0 0, .int .i64 0, .slice none 0 0, .slice none 0 0] := Blk.grown hB2 hg3 (by simp; omega)
          try dsimp only
          refine hK _ _ ?_
          clear hK K
          repeat (first | (refine wpAny_take (i := 0) (v := .pointer (some ⟨R, 0, none⟩)) rfl ?_ ?_ ?_ (fun _ _ _ h => h) (Or.inl ⟨by rfl, ?_⟩) ?_; (· decide +kernel); (· decide +kernel); (· decide +kernel); (· (intro w; go_simp))) | (refine wpAny_take (i := 1) (v := .pointer (some ⟨R, 0, none⟩)) rfl ?_ ?_ ?_ (fun _ _ _ h => h) (Or.inl ⟨by rfl, ?_⟩) ?_; (· decide +kernel); (· decide +kernel); (· decide +kernel); (· (intro w; go_simp))) | (refine wpAny_take (i := 2) (v := .pointer (some ⟨R, 0, none⟩)) rfl ?_ ?_ ?_ (fun _ _ _ h => h) (Or.inl ⟨by rfl, ?_⟩) ?_; (· decide +kernel); (· decide +kernel); (· decide +kernel); (· (intro w; go_simp))) | (refine wpAny_take (i := 4) (v := .pointer (some ⟨R, 0, none⟩)) rfl ?_ ?_ ?_ (fun _ _ _ h => h) (Or.inl ⟨by rfl, ?_⟩) ?_; (· decide +kernel); (· decide +kernel); (· decide +kernel); (· (intro w; go_simp))) | (refine wpAny_take (i := 6) (v := .pointer (some ⟨R, 0, none⟩)) rfl ?_ ?_ ?_ (fun _ _ _ h => h) (Or.inl ⟨by rfl, ?_⟩) ?_; (· decide +kernel); (· decide +kernel); (· decide +kernel); (· (intro w; go_simp))) | (refine wpAny_take (i := 7) (v := .pointer (some ⟨R, 0, none⟩)) rfl ?_ ?_ ?_ (fun _ _ _ h => h) (Or.inl ⟨by rfl, ?_⟩) ?_; (· decide +kernel); (· decide +kernel); (· decide +kernel); (· (intro w; go_simp))) | (refine wpAny_take (i := 8) (v := .pointer (some ⟨R, 0, none⟩)) rfl ?_ ?_ ?_ (fun _ _ _ h => h) (Or.inl ⟨by rfl, ?_⟩) ?_; (· decide +kernel); (· decide +kernel); (· decide +kernel); (· (intro w; go_simp))) | (refine wpAny_take (i := 9) (v := .pointer (some ⟨R, 0, none⟩)) rfl ?_ ?_ ?_ (fun _ _ _ h => h) (Or.inl ⟨by rfl, ?_⟩) ?_; (· decide +kernel); (· decide +kernel); (· decide +kernel); (· (intro w; go_simp))) | (refine wpAny_take (i := 12) (v := .pointer (some ⟨R, 0, none⟩)) rfl ?_ ?_ ?_ (fun _ _ _ h => h) (Or.inl ⟨by rfl, ?_⟩) ?_; (· decide +kernel); (· decide +kernel); (· decide +kernel); (· (intro w; go_simp))) | (refine wpAny_take (i := 13) (v := .pointer (some ⟨R, 0, none⟩)) rfl ?_ ?_ ?_ (fun _ _ _ h => h) (Or.inl ⟨by rfl, ?_⟩) ?_; (· decide +kernel); (· decide +kernel); (· decide +kernel); (· (intro w; go_simp))) | (refine wpAny_take (i := 14) (v := .pointer (some ⟨R, 0, none⟩)) rfl ?_ ?_ ?_ (fun _ _ _ h => h) (Or.inl ⟨by rfl, ?_⟩) ?_; (· decide +kernel); (· decide +kernel); (· decide +kernel); (· (intro w; go_simp))) | (refine wpAny_take (i := 10) (v := .func (.func 85) #[.pointer (some ⟨R, 0, none⟩)] #[]) rfl ?_ ?_ ?_ (fun _ _ _ h => h) (Or.inl ⟨by rfl, ?_⟩) ?_; (· decide +kernel); (· decide +kernel); (· decide +kernel); (· (intro w; go_simp))))
          refine wpAny_ready (rs := [15]) (by decide +kernel) (by simp) ?_
          refine AllReady.cons rfl (fun K hK => ?_) AllReady.nil
          go_simp
          refine (rint_any _ R T [.int .i64 0] bs3 bad1 (by exact hrd3)).mono ?_
          rintro e w4 ⟨v4, x4, bs4, bad4, rfl, ⟨rfl, hn4⟩, hrd4, hg4, hl4, hh4⟩
          obtain ⟨hb4, C4⟩ := C3.step hh4.out
          subst hb4
          clear hh4
          have sv4 := (SvCells.stable 41).keep sv3 (w' := w4) (fun b hb hl => by have h := hg4.block b (by first | omega | (simp; omega)) (by first | omega | (simp; omega)); first | exact h | (rw [h]; exact Below.heap_alloc _ _ b hl))
          have b4 := b3.keep (w' := w4) (fun b hb hl => by have h := hg4.block b (by first | omega | (simp; omega)) (by first | omega | (simp; omega)); first | exact h | (rw [h]; exact Below.heap_alloc _ _ b hl))
          clear sv3 b3
          have K4 : W0.grownBy w4 (some R) := grownBy_trans (by exact K3) hg4
          have q4 := K4.size
          have r4 := hrd4.lt
          have s4 : w3.heap.size ≤ w4.heap.size := by have := hg4.size; (try simp at this); omega
          have hB4 : Blk w4 w1.heap.size 48 [.int .i64 0, .string ⟨#[]⟩, .slice none 0 0, .slice none 0 0, .slice none 0 0, .int .i64 0, .slice none 0 0, .slice none 0 0] := Blk.grown hB3 hg4 (by simp; omega)
          have k0 := hB4.cell 0
          have j0 := hB4.frozen 0
          have k1 := hB4.cell 1
          have j1 := hB4.frozen 1
          have k2 := hB4.cell 2
          have j2 := hB4.frozen 2
          have k3 := hB4.cell 3
          have j3 := hB4.frozen 3
          have k4 := hB4.cell 4
          have j4 := hB4.frozen 4
          have k5 := hB4.cell 5
          have j5 := hB4.frozen 5
          have k6 := hB4.cell 6
          have j6 := hB4.frozen 6
          have k7 := hB4.cell 7
          have j7 := hB4.frozen 7
          have jl := hB4.lt
          simp only [List.getElem?_cons_succ, List.getElem?_cons_zero] at k0 k1 k2 k3 k4 k5 k6 k7
          try dsimp only
          refine hK _ _ ?_
          clear hK K
          repeat (first | (refine wpAny_take (i := 16) (v := .agg #[.int .i64 (x1 : Int), .string sa, .slice A1 ss.length c1, .slice A2 si.length c2, .slice A3 l3.length c3, .int .i64 x4, .slice none 0 0, .slice none 0 0]) rfl ?_ ?_ ?_ (fun _ _ _ h => h) (Or.inl ⟨by rfl, ?_⟩) ?_; (· decide +kernel); (· decide +kernel); (· decide +kernel); (· (intro w; go_simp))))
          refine wpAny_ready (rs := [18]) (by decide +kernel) (by simp) ?_
          refine AllReady.cons rfl (fun K hK => ?_) AllReady.nil
          go_simp
          refine hK _ _ ?_
          clear hK K
          refine wpAny_done (by decide +kernel) ?_ _
          go_wp2_with (fail)
          go_meet
          have hz4 := hB0.grown K4 (by simp; omega)
          have hG4 := grownBy_trans hG0 K4
          exact midP_set hB4 (by omega) l1 (fun b hb => by omega) (fun b hb => by omega) sv4 b4 hn1 hn4 hll3 hc3 hm3 hz4 hrd4 hG4 (by omega) E1 C4
      · go_simp
        refine hK _ _ ?_
        clear hK K
        repeat (first | (refine wpAny_take (i := 0) (v := .pointer (some ⟨R, 0, none⟩)) rfl ?_ ?_ ?_ (fun _ _ _ h => h) (Or.inl ⟨by rfl, ?_⟩) ?_; (· decide +kernel); (· decide +kernel); (· decide +kernel); (· (intro w; go_simp))) | (refine wpAny_take (i := 1) (v := .pointer (some ⟨R, 0, none⟩)) rfl ?_ ?_ ?_ (fun _ _ _ h => h) (Or.inl ⟨by rfl, ?_⟩) ?_; (· decide +kernel); (· decide +kernel); (· decide +kernel); (· (intro w; go_simp))) | (refine wpAny_take (i := 2) (v := .pointer (some ⟨R, 0, none⟩)) rfl ?_ ?_ ?_ (fun _ _ _ h => h) (Or.inl ⟨by rfl, ?_⟩) ?_; (· decide +kernel); (· decide +kernel); (· decide +kernel); (· (intro w; go_simp))) | (refine wpAny_take (i := 4) (v := .pointer (some ⟨R, 0, none⟩)) rfl ?_ ?_ ?_ (fun _ _ _ h => h) (Or.inl ⟨by rfl, ?_⟩) ?_; (· decide +kernel); (· decide +kernel); (· decide +kernel); (· (intro w; go_simp))) | (refine wpAny_take (i := 6) (v := .pointer (some ⟨R, 0, none⟩)) rfl ?_ ?_ ?_ (fun _ _ _ h => h) (Or.inl ⟨by rfl, ?_⟩) ?_; (· decide +kernel); (· decide +kernel); (· decide +kernel); (· (intro w; go_simp))) | (refine wpAny_take (i := 7) (v := .pointer (some ⟨R, 0, none⟩)) rfl ?_ ?_ ?_ (fun _ _ _ h => h) (Or.inl ⟨by rfl, ?_⟩) ?_; (· decide +kernel); (· decide +kernel); (· decide +kernel); (· (intro w; go_simp))) | (refine wpAny_take (i := 8) (v := .pointer (some ⟨R, 0, none⟩)) rfl ?_ ?_ ?_ (fun _ _ _ h => h) (Or.inl ⟨by rfl, ?_⟩) ?_; (· decide +kernel); (· decide +kernel); (· decide +kernel); (· (intro w; go_simp))) | (refine wpAny_take (i := 9) (v := .pointer (some ⟨R, 0, none⟩)) rfl ?_ ?_ ?_ (fun _ _ _ h => h) (Or.inl ⟨by rfl, ?_⟩) ?_; (· decide +kernel); (· decide +kernel); (· decide +kernel); (· (intro w; go_simp))) | (refine wpAny_take (i := 12) (v := .pointer (some ⟨R, 0, none⟩)) rfl ?_ ?_ ?_ (fun _ _ _ h => h) (Or.inl ⟨by rfl, ?_⟩) ?_; (· decide +kernel); (· decide +kernel); (· decide +kernel); (· (intro w; go_simp))) | (refine wpAny_take (i := 13) (v := .pointer (some ⟨R, 0, none⟩)) rfl ?_ ?_ ?_ (fun _ _ _ h => h) (Or.inl ⟨by rfl, ?_⟩) ?_; (· decide +kernel); (· decide +kernel); (· decide +kernel); (· (intro w; go_simp))) | (refine wpAny_take (i := 14) (v := .pointer (some ⟨R, 0, none⟩)) rfl ?_ ?_ ?_ (fun _ _ _ h => h) (Or.inl ⟨by rfl, ?_⟩) ?_; (· decide +kernel); (· decide +kernel); (· decide +kernel); (· (intro w; go_simp))) | (refine wpAny_take (i := 10) (v := .func (.func 85) #[.pointer (some ⟨R, 0, none⟩)] #[]) rfl ?_ ?_ ?_ (fun _ _ _ h => h) (Or.inl ⟨by rfl, ?_⟩) ?_; (· decide +kernel); (· decide +kernel); (· decide +kernel); (· (intro w; go_simp))))
        refine wpAny_ready (rs := [3]) (by decide +kernel) (by simp) ?_
        refine AllReady.cons rfl (fun K hK => ?_) AllReady.nil
        go_simp
        refine (rnat_any _ R T [.int .i64 0] bs false (by exact hrd0.alloc _)).mono ?_
        rintro e w1 ⟨v1, x1, bs1, bad1, rfl, ⟨rfl, hn1⟩, hrd1, hg1, hl1, hh1⟩
        obtain ⟨E1, C1⟩ := first_parcel HF.out hh1.out
        clear hh1
        have K1 : W0.grownBy w1 (some R) := grownBy_trans (by exact (grownBy_alloc (grownBy_drew (World.grownBy.refl W0 _)) _)) hg1
        have q1 := K1.size
        have r1 := hrd1.lt
        have s1 : W0.heap.size + 1 ≤ w1.heap.size := by have := hg1.size; (try simp at this); omega
        have hB1 : Blk w1 W0.heap.size 48 [.int .i64 0, .string ⟨#[]⟩, .slice none 0 0, .slice none 0 0, .slice none 0 0, .int .i64 0, .slice none 0 0, .slice none 0 0] := Blk.grown (by exact ZZ.out W0) hg1 (by simp; omega)
        try dsimp only
        refine hK _ _ ?_
        clear hK K
        repeat (first | (refine wpAny_take (i := 0) (v := .pointer (some ⟨R, 0, none⟩)) rfl ?_ ?_ ?_ (fun _ _ _ h => h) (Or.inl ⟨by rfl, ?_⟩) ?_; (· decide +kernel); (· decide +kernel); (· decide +kernel); (· (intro w; go_simp))) | (refine wpAny_take (i := 1) (v := .pointer (some ⟨R, 0, none⟩)) rfl ?_ ?_ ?_ (fun _ _ _ h => h) (Or.inl ⟨by rfl, ?_⟩) ?_; (· decide +kernel); (· decide +kernel); (· decide +kernel); (· (intro w; go_simp))) | (refine wpAny_take (i := 2) (v := .pointer (some ⟨R, 0, none⟩)) rfl ?_ ?_ ?_ (fun _ _ _ h => h) (Or.inl ⟨by rfl, ?_⟩) ?_; (· decide +kernel); (· decide +kernel); (· decide +kernel); (· (intro w; go_simp))) | (refine wpAny_take (i := 4) (v := .pointer (some ⟨R, 0, none⟩)) rfl ?_ ?_ ?_ (fun _ _ _ h => h) (Or.inl ⟨by rfl, ?_⟩) ?_; (· decide +kernel); (· decide +kernel); (· decide +kernel); (· (intro w; go_simp))) | (refine wpAny_take (i := 6) (v := .pointer (some ⟨R, 0, none⟩)) rfl ?_ ?_ ?_ (fun _ _ _ h => h) (Or.inl ⟨by rfl, ?_⟩) ?_; (· decide +kernel); (· decide +kernel); (· decide +kernel); (· (intro w; go_simp))) | (refine wpAny_take (i := 7) (v := .pointer (some ⟨R, 0, none⟩)) rfl ?_ ?_ ?_ (fun _ _ _ h => h) (Or.inl ⟨by rfl, ?_⟩) ?_; (· decide +kernel); (· decide +kernel); (· decide +kernel); (· (intro w; go_simp))) | (refine wpAny_take (i := 8) (v := .pointer (some ⟨R, 0, none⟩)) rfl ?_ ?_ ?_ (fun _ _ _ h => h) (Or.inl ⟨by rfl, ?_⟩) ?_; (· decide +kernel); (· decide +kernel); (· decide +kernel); (· (intro w; go_simp))) | (refine wpAny_take (i := 9) (v := .pointer (some ⟨R, 0, none⟩)) rfl ?_ ?_ ?_ (fun _ _ _ h => h) (Or.inl ⟨by rfl, ?_⟩) ?_; (· decide +kernel); (· decide +kernel); (· decide +kernel); (· (intro w; go_simp))) | (refine wpAny_take (i := 12) (v := .pointer (some ⟨R, 0, none⟩)) rfl ?_ ?_ ?_ (fun _ _ _ h => h) (Or.inl ⟨by rfl, ?_⟩) ?_; (· decide +kernel); (· decide +kernel); (· decide +kernel); (· (intro w; go_simp))) | (refine wpAny_take (i := 13) (v := .pointer (some ⟨R, 0, none⟩)) rfl ?_ ?_ ?_ (fun _ _ _ h => h) (Or.inl ⟨by rfl, ?_⟩) ?_; (· decide +kernel); (· decide +kernel); (· decide +kernel); (· (intro w; go_simp))) | (refine wpAny_take (i := 14) (v := .pointer (some ⟨R, 0, none⟩)) rfl ?_ ?_ ?_ (fun _ _ _ h => h) (Or.inl ⟨by rfl, ?_⟩) ?_; (· decide +kernel); (· decide +kernel); (· decide +kernel); (· (intro w; go_simp))) | (refine wpAny_take (i := 10) (v := .func (.func 85) #[.pointer (some ⟨R, 0, none⟩)] #[]) rfl ?_ ?_ ?_ (fun _ _ _ h => h) (Or.inl ⟨by rfl, ?_⟩) ?_; (· decide +kernel); (· decide +kernel); (· decide +kernel); (· (intro w; go_simp))))
        refine wpAny_ready (rs := [5]) (by decide +kernel) (by simp) ?_
        refine AllReady.cons rfl (fun K hK => ?_) AllReady.nil
        go_simp
        refine (rsaved_any _ R T bs1 bad1 (by omega) (by exact hrd1) C1.head).mono ?_
        rintro e w2 ⟨x2, cs2, bs2, rfl, hv2, hrd2, hg2, hl2, hh2⟩
        obtain ⟨_, C2⟩ := C1.step hh2.out
        clear hh2
        obtain ⟨A1, c1, vs1, A2, c2, vs2, rfl, _⟩ := id hv2
        obtain ⟨sa, ss, si⟩ := x2
        simp only at hv2
        have sv2 : SvCells 41 w2 (fun b => w1.heap.size ≤ b ∧ b < w2.heap.size) [.string sa, .slice A1 ss.length c1, .slice A2 si.length c2] ⟨sa, ss, si⟩ := (SvCells.stable 41).imp hv2 fun b hb hl => ⟨by simpa using hb, hl⟩
        clear hv2
        have K2 : W0.grownBy w2 (some R) := grownBy_trans (by exact K1) hg2
        have q2 := K2.size
        have r2 := hrd2.lt
        have s2 : w1.heap.size ≤ w2.heap.size := by have := hg2.size; (try simp at this); omega
        have hB2 : Blk w2 W0.heap.size 48 [.int .i64 0, .string ⟨#[]⟩, .slice none 0 0, .slice none 0 0, .slice none 0 0, .int .i64 0, .slice none 0 0, .slice none 0 0] := Blk.grown hB1 hg2 (by simp; omega)
        try dsimp only
        refine hK _ _ ?_
        clear hK K
        repeat (first | (refine wpAny_take (i := 0) (v := .pointer (some ⟨R, 0, none⟩)) rfl ?_ ?_ ?_ (fun _ _ _ h => h) (Or.inl ⟨by rfl, ?_⟩) ?_; (· decide +kernel); (· decide +kernel); (· decide +kernel); (· (intro w; go_simp))) | (refine wpAny_take (i := 1) (v := .pointer (some ⟨R, 0, none⟩)) rfl ?_ ?_ ?_ (fun _ _ _ h => h) (Or.inl ⟨by rfl, ?_⟩) ?_; (· decide +kernel); (· decide +kernel); (· decide +kernel); (· (intro w; go_simp))) | (refine wpAny_take (i := 2) (v := .pointer (some ⟨R, 0, none⟩)) rfl ?_ ?_ ?_ (fun _ _ _ h => h) (Or.inl ⟨by rfl, ?_⟩) ?_; (· decide +kernel); (· decide +kernel); (· decide +kernel); (· (intro w; go_simp))) | (refine wpAny_take (i := 4) (v := .pointer (some ⟨R, 0, none⟩)) rfl ?_ ?_ ?_ (fun _ _ _ h => h) (Or.inl ⟨by rfl, ?_⟩) ?_; (· decide +kernel); (· decide +kernel); (· decide +kernel); (· (intro w; go_simp))) | (refine wpAny_take (i := 6) (v := .pointer (some ⟨R, 0, none⟩)) rfl ?_ ?_ ?_ (fun _ _ _ h => h) (Or.inl ⟨by rfl, ?_⟩) ?_; (· decide +kernel); (· decide +kernel); (· decide +kernel); (· (intro w; go_simp))) | (refine wpAny_take (i := 7) (v := .pointer (some ⟨R, 0, none⟩)) rfl ?_ ?_ ?_ (fun _ _ _ h => h) (Or.inl ⟨by rfl, ?_⟩) ?_; (· decide +kernel); (· decide +kernel); (· decide +kernel); (· (intro w; go_simp))) | (refine wpAny_take (i := 8) (v := .pointer (some ⟨R, 0, none⟩)) rfl ?_ ?_ ?_ (fun _ _ _ h => h) (Or.inl ⟨by rfl, ?_⟩) ?_; (· decide +kernel); (· decide +kernel); (· decide +kernel); (· (intro w; go_simp))) | (refine wpAny_take (i := 9) (v := .pointer (some ⟨R, 0, none⟩)) rfl ?_ ?_ ?_ (fun _ _ _ h => h) (Or.inl ⟨by rfl, ?_⟩) ?_; (· decide +kernel); (· decide +kernel); (· decide +kernel); (· (intro w; go_simp))) | (refine wpAny_take (i := 12) (v := .pointer (some ⟨R, 0, none⟩)) rfl ?_ ?_ ?_ (fun _ _ _ h => h) (Or.inl ⟨by rfl, ?_⟩) ?_; (· decide +kernel); (· decide +kernel); (· decide +kernel); (· (intro w; go_simp))) | (refine wpAny_take (i := 13) (v := .pointer (some ⟨R, 0, none⟩)) rfl ?_ ?_ ?_ (fun _ _ _ h => h) (Or.inl ⟨by rfl, ?_⟩) ?_; (· decide +kernel); (· decide +kernel); (· decide +kernel); (· (intro w; go_simp))) | (refine wpAny_take (i := 14) (v := .pointer (some ⟨R, 0, none⟩)) rfl ?_ ?_ ?_ (fun _ _ _ h => h) (Or.inl ⟨by rfl, ?_⟩) ?_; (· decide +kernel); (· decide +kernel); (· decide +kernel); (· (intro w; go_simp))) | (refine wpAny_take (i := 10) (v := .func (.func 85) #[.pointer (some ⟨R, 0, none⟩)] #[]) rfl ?_ ?_ ?_ (fun _ _ _ h => h) (Or.inl ⟨by rfl, ?_⟩) ?_; (· decide +kernel); (· decide +kernel); (· decide +kernel); (· (intro w; go_simp))))
        refine wpAny_ready (rs := [11]) (by decide +kernel) (by simp) ?_
        refine AllReady.cons rfl (fun K hK => ?_) AllReady.nil
        go_simp
        refine (someLe_any _ R T bs2 bad1 (by omega) (by exact hrd2) C2.head).mono ?_
        rintro e w3 ⟨l3, A3, c3, bs3, rfl, ho3, hll3, hrd3, hg3, hl3, hh3⟩
        obtain ⟨_, C3⟩ := C2.step hh3.out
        clear hh3
        obtain ⟨vs3, _, hc3, hm3, hr3, ha3⟩ := ho3.reads (LCells.stable 41) (by omega)
        have b3 : BoxAt w3 (fun b => w2.heap.size ≤ b ∧ b < w3.heap.size) A3 l3 := ⟨vs3, hr3.imp (by omega) fun b hb hl => ⟨by simpa using hb, hl⟩, ha3.imp fun _ _ h => (LCells.stable 41).imp h fun b hb hl => ⟨by simpa using hb, hl⟩⟩
        have sv3 := (SvCells.stable 41).keep sv2 (w' := w3) (fun b hb hl => by have h := hg3.block b (by first | omega | (simp; omega)) (by first | omega | (simp; omega)); first | exact h | (rw [h]; exact Below.heap_alloc _ _ b hl))
        clear sv2 ho3 hr3 ha3
        have K3 : W0.grownBy w3 (some R) := grownBy_trans (by exact K2) hg3
        have q3 := K3.size
        have r3 := hrd3.lt
        have s3 : w2.heap.size ≤ w3.heap.size := by have := hg3.size; (try simp at this); omega
        have hB3 : Blk w3 W0.heap.size 48 [.int .i64 0, .string ⟨#[]⟩, .slice none 0 0, .slice none 0 0, .slice none 0 0, .int .i64 0, .slice none 0 0, .slice none 0 0] := Blk.grown hB2 hg3 (by simp; omega)
        try dsimp only
        refine hK _ _ ?_
        clear hK K
        repeat (first | (refine wpAny_take (i := 0) (v := .pointer (some ⟨R, 0, none⟩)) rfl ?_ ?_ ?_ (fun _ _ _ h => h) (Or.inl ⟨by rfl, ?_⟩) ?_; (· decide +kernel); (· decide +kernel); (· decide +kernel); (· (intro w; go_simp))) | (refine wpAny_take (i := 1) (v := .pointer (some ⟨R, 0, none⟩)) rfl ?_ ?_ ?_ (fun _ _ _ h => h) (Or.inl ⟨by rfl, ?_⟩) ?_; (· decide +kernel); (· decide +kernel); (· decide +kernel); (· (intro w; go_simp))) | (refine wpAny_take (i := 2) (v := .pointer (some ⟨R, 0, none⟩)) rfl ?_ ?_ ?_ (fun _ _ _ h => h) (Or.inl ⟨by rfl, ?_⟩) ?_; (· decide +kernel); (· decide +kernel); (· decide +kernel); (· (intro w; go_simp))) | (refine wpAny_take (i := 4) (v := .pointer (some ⟨R, 0, none⟩)) rfl ?_ ?_ ?_ (fun _ _ _ h => h) (Or.inl ⟨by rfl, ?_⟩) ?_; (· decide +kernel); (· decide +kernel); (· decide +kernel); (· (intro w; go_simp))) | (refine wpAny_take (i := 6) (v := .pointer (some ⟨R, 0, none⟩)) rfl ?_ ?_ ?_ (fun _ _ _ h => h) (Or.inl ⟨by rfl, ?_⟩) ?_; (· decide +kernel); (· decide +kernel); (· decide +kernel); (· (intro w; go_simp))) | (refine wpAny_take (i := 7) (v := .pointer (some ⟨R, 0, none⟩)) rfl ?_ ?_ ?_ (fun _ _ _ h => h) (Or.inl ⟨by rfl, ?_⟩) ?_; (· decide +kernel); (· decide +kernel); (· decide +kernel); (· (intro w; go_simp))) | (refine wpAny_take (i := 8) (v := .pointer (some ⟨R, 0, none⟩)) rfl ?_ ?_ ?_ (fun _ _ _ h => h) (Or.inl ⟨by rfl, ?_⟩) ?_; (· decide +kernel); (· decide +kernel); (· decide +kernel); (· (intro w; go_simp))) | (refine wpAny_take (i := 9) (v := .pointer (some ⟨R, 0, none⟩)) rfl ?_ ?_ ?_ (fun _ _ _ h => h) (Or.inl ⟨by rfl, ?_⟩) ?_; (· decide +kernel); (· decide +kernel); (· decide +kernel); (· (intro w; go_simp))) | (refine wpAny_take (i := 12) (v := .pointer (some ⟨R, 0, none⟩)) rfl ?_ ?_ ?_ (fun _ _ _ h => h) (Or.inl ⟨by rfl, ?_⟩) ?_; (· decide +kernel); (· decide +kernel); (· decide +kernel); (· (intro w; go_simp))) | (refine wpAny_take (i := 13) (v := .pointer (some ⟨R, 0, none⟩)) rfl ?_ ?_ ?_ (fun _ _ _ h => h) (Or.inl ⟨by rfl, ?_⟩) ?_; (· decide +kernel); (· decide +kernel); (· decide +kernel); (· (intro w; go_simp))) | (refine wpAny_take (i := 14) (v := .pointer (some ⟨R, 0, none⟩)) rfl ?_ ?_ ?_ (fun _ _ _ h => h) (Or.inl ⟨by rfl, ?_⟩) ?_; (· decide +kernel); (· decide +kernel); (· decide +kernel); (· (intro w; go_simp))) | (refine wpAny_take (i := 10) (v := .func (.func 85) #[.pointer (some ⟨R, 0, none⟩)] #[]) rfl ?_ ?_ ?_ (fun _ _ _ h => h) (Or.inl ⟨by rfl, ?_⟩) ?_; (· decide +kernel); (· decide +kernel); (· decide +kernel); (· (intro w; go_simp))))
        refine wpAny_ready (rs := [15]) (by decide +kernel) (by simp) ?_
        refine AllReady.cons rfl (fun K hK => ?_) AllReady.nil
        go_simp
        refine (rint_any _ R T [.int .i64 0] bs3 bad1 (by exact hrd3)).mono ?_
        rintro e w4 ⟨v4, x4, bs4, bad4, rfl, ⟨rfl, hn4⟩, hrd4, hg4, hl4, hh4⟩
        obtain ⟨hb4, C4⟩ := C3.step hh4.out
        subst hb4
        clear hh4
        have sv4 := (SvCells.stable 41).keep sv3 (w' := w4) (fun b hb hl => by have h := hg4.block b (by first | omega | (simp; omega)) (by first | omega | (simp; omega)); first | exact h | (rw [h]; exact Below.heap_alloc _ _ b hl))
        have b4 := b3.keep (w' := w4) (fun b hb hl => by have h := hg4.block b (by first | omega | (simp; omega)) (by first | omega | (simp; omega)); first | exact h | (rw [h]; exact Below.heap_alloc _ _ b hl))
        clear sv3 b3
        have K4 : W0.grownBy w4 (some R) := grownBy_trans (by exact K3) hg4
        have q4 := K4.size
        have r4 := hrd4.lt
        have s4 : w3.heap.size ≤ w4.heap.size := by have := hg4.size; (try simp at this); omega
        have hB4 : Blk w4 W0.heap.size 48 [.int .i64 0, .string ⟨#[]⟩, .slice none 0 0, .slice none 0 0, .slice none 0 0, .int .i64 0, .slice none 0 0, .slice none 0 0] := Blk.grown hB3 hg4 (by simp; omega)
        have k0 := hB4.cell 0
        have j0 := hB4.frozen 0
        have k1 := hB4.cell 1
        have j1 := hB4.frozen 1
        have k2 := hB4.cell 2
        have j2 := hB4.frozen 2
        have k3 := hB4.cell 3
        have j3 := hB4.frozen 3
        have k4 := hB4.cell 4
        have j4 := hB4.frozen 4
        have k5 := hB4.cell 5
        have j5 := hB4.frozen 5
        have k6 := hB4.cell 6
        have j6 := hB4.frozen 6
        have k7 := hB4.cell 7
        have j7 := hB4.frozen 7
        have jl := hB4.lt
        simp only [List.getElem?_cons_succ, List.getElem?_cons_zero] at k0 k1 k2 k3 k4 k5 k6 k7
        try dsimp only
        refine hK _ _ ?_
        clear hK K
        repeat (first | (refine wpAny_take (i := 16) (v := .agg #[.int .i64 (x1 : Int), .string sa, .slice A1 ss.length c1, .slice A2 si.length c2, .slice A3 l3.length c3, .int .i64 x4, .slice none 0 0, .slice none 0 0]) rfl ?_ ?_ ?_ (fun _ _ _ h => h) (Or.inl ⟨by rfl, ?_⟩) ?_; (· decide +kernel); (· decide +kernel); (· decide +kernel); (· (intro w; go_simp))))
        refine wpAny_ready (rs := [18]) (by decide +kernel) (by simp) ?_
        refine AllReady.cons rfl (fun K hK => ?_) AllReady.nil
        go_simp
        refine hK _ _ ?_
        clear hK K
        refine wpAny_done (by decide +kernel) ?_ _
        go_wp2_with (fail)
        go_meet
        have hz4 := hB0.grown K4 (by simp; omega)
        have hG4 := grownBy_trans hG0 K4
        exact midP_set hB4 (by omega) l1 (fun b hb => by omega) (fun b hb => by omega) sv4 b4 hn1 hn4 hll3 hc3 hm3 hz4 hrd4 hG4 (by omega) E1 C4
  case rest =>
    clear hrd0 hG0 hB0 lR hzl HF
    obtain ⟨bad, bs1, g, x1, sa, ss, si, A1, c1, A2, c2, l3, A3, c3, x4, bs4, rfl, hgw, hC, hB, hn1, hn4, hF, hll3, hc3, hm3, hrd, hG, hle, E1, C4⟩ := hcut
    have lg := hC.lt
    have lz := hB.lt
    have lR := hrd.lt
    go_upto_region 2 with (fail)
    refine wp_region_any (by kernel_rfl) ?_
    change wpAny _ _ _ _ _ _ _ (World.drew _)
    repeat (first | (refine wpAny_take (i := 0) (v := .pointer (some ⟨R, 0, none⟩)) rfl ?_ ?_ ?_ (fun _ _ _ h => h) (Or.inl ⟨by rfl, ?_⟩) ?_; (· decide +kernel); (· decide +kernel); (· decide +kernel); (· (intro w; go_simp))) | (refine wpAny_take (i := 1) (v := .pointer (some ⟨R, 0, none⟩)) rfl ?_ ?_ ?_ (fun _ _ _ h => h) (Or.inl ⟨by rfl, ?_⟩) ?_; (· decide +kernel); (· decide +kernel); (· decide +kernel); (· (intro w; go_simp))) | (refine wpAny_take (i := 2) (v := .pointer (some ⟨R, 0, none⟩)) rfl ?_ ?_ ?_ (fun _ _ _ h => h) (Or.inl ⟨by rfl, ?_⟩) ?_; (· decide +kernel); (· decide +kernel); (· decide +kernel); (· (intro w; go_simp))) | (refine wpAny_take (i := 3) (v := .pointer (some ⟨R, 0, none⟩)) rfl ?_ ?_ ?_ (fun _ _ _ h => h) (Or.inl ⟨by rfl, ?_⟩) ?_; (· decide +kernel); (· decide +kernel); (· decide +kernel); (· (intro w; go_simp))) | (refine wpAny_take (i := 4) (v := .pointer (some ⟨R, 0, none⟩)) rfl ?_ ?_ ?_ (fun _ _ _ h => h) (Or.inl ⟨by rfl, ?_⟩) ?_; (· decide +kernel); (· decide +kernel); (· decide +kernel); (· (intro w; go_simp))) | (refine wpAny_take (i := 5) (v := .pointer (some ⟨R, 0, none⟩)) rfl ?_ ?_ ?_ (fun _ _ _ h => h) (Or.inl ⟨by rfl, ?_⟩) ?_; (· decide +kernel); (· decide +kernel); (· decide +kernel); (· (intro w; go_simp))) | (refine wpAny_take (i := 6) (v := .func (.func 82) #[.pointer (some ⟨R, 0, none⟩)] #[]) rfl ?_ ?_ ?_ (fun _ _ _ h => h) (Or.inl ⟨by rfl, ?_⟩) ?_; (· decide +kernel); (· decide +kernel); (· decide +kernel); (· (intro w; go_simp))))
    refine wpAny_ready (rs := [7]) (by decide +kernel) (by simp) ?_
    refine AllReady.cons rfl (fun K hK => ?_) AllReady.nil
    go_simp
    refine (someNu_any _ R T bs4 bad (by omega) (by exact hrd)  C4.head).mono ?_
    rintro e w1 ⟨l5, A5, c5, bs5, rfl, ho5, hll5, hrd5, hg1, hl5, hh5⟩
    obtain ⟨_, C5⟩ := C4.step hh5.out
    clear hh5
    have hrd1 := hrd5
    have K1 : wc.grownBy w1 (some R) := grownBy_trans (by exact (grownBy_drew (World.grownBy.refl wc _))) hg1
    have q1 := K1.size
    have r1 := hrd1.lt
    have hg1' : wc.grownBy w1 (some R) := K1
    have x5 := hC.grown hg1' (by simp; omega)
    have y5 := hB.grown hg1' (by simp; omega)
    have hF5 := hF.keep (Same.of_grown hg1' fun b hb _ => by have := hb.1; simp; omega)
    have hG5 := grownBy_trans hG hg1'
    have k0 := x5.cell 0
    have k1 := x5.cell 1
    have k2 := x5.cell 2
    have k3 := x5.cell 3
    have k4 := x5.cell 4
    have k5 := x5.cell 5
    have k6 := x5.cell 6
    have k7 := x5.cell 7
    have j0 := x5.frozen 0
    have j1 := x5.frozen 1
    have j2 := x5.frozen 2
    have j3 := x5.frozen 3
    have j4 := x5.frozen 4
    have j5 := x5.frozen 5
    have j6 := x5.frozen 6
    have j7 := x5.frozen 7
    have jl := x5.lt
    simp only [List.getElem?_cons_succ, List.getElem?_cons_zero] at k0 k1 k2 k3 k4 k5 k6 k7
    try dsimp only
    refine hK _ _ ?_
    clear hK K
    repeat (first | (refine wpAny_take (i := 8) (v := .pointer (some ⟨g, 6, none⟩)) rfl ?_ ?_ ?_ (fun _ _ _ h => h) (Or.inl ⟨by rfl, ?_⟩) ?_; (· decide +kernel); (· decide +kernel); (· decide +kernel); (· (intro w; go_simp))))
    refine wpAny_ready (rs := [9]) (by decide +kernel) (by simp) ?_
    refine AllReady.cons rfl (fun K hK => ?_) AllReady.nil
    go_simp
    refine hK _ _ ?_
    clear hK K
    refine wpAny_done (by decide +kernel) ?_ _
    go_upto_region 3 with (fail)
    obtain ⟨W5, hW5⟩ : ∃ W5, W5 = w1.setCell ⟨g, 6, none⟩ (.slice A5 l5.length c5) := ⟨_, rfl⟩
    have hC5 : Blk W5 g 48 [.int .i64 (x1 : Int), .string sa, .slice A1 ss.length c1, .slice A2 si.length c2, .slice A3 l3.length c3, .int .i64 x4, .slice A5 l5.length c5, .slice none 0 0] := by rw [hW5]; exact x5.put 6 _
    have hB5 : Blk W5 w.heap.size 48 [.int .i64 0, .string ⟨#[]⟩, .slice none 0 0, .slice none 0 0, .slice none 0 0, .int .i64 0, .slice none 0 0, .slice none 0 0] := by rw [hW5]; exact y5.far (by simp; omega) _
    have hF5 : PF W5 (fun b => w.heap.size < b ∧ b ≠ g) A1 c1 A2 c2 A3 sa ss si l3 := by rw [hW5]; exact PF.keep (by assumption) fun b hb _ => Below.heap_setCell w1 _ _ b hb.2
    have hG5 : w.grownBy W5 (some R) := by rw [hW5]; exact grownBy_setCell (by assumption) (.inr (by simp; omega)) _
    obtain ⟨hc5, hm5, hr5⟩ := nums_own ho5
    have hN5 : Reads W5 (fun b => w.heap.size < b ∧ b ≠ g) 1 A5 l5.length (nums l5) := by
      rw [hW5]
      exact (hr5.imp (by omega) fun b hb _ => by have : wc.heap.size ≤ b := hb; omega).keep fun b hb _ => Below.heap_setCell w1 _ _ b hb.2
    have hrd5 : Rd W5 R T [.int .i64 0] bs5 bad := by rw [hW5]; exact hrd1.keep fun b hb _ => Below.heap_setCell w1 _ _ b (by simp; omega)
    rw [← hW5]
    have lg5 := hC5.lt
    have lz5 := hB5.lt
    have lR5 := hrd5.lt
    clear hW5 x5 y5 hr5 ho5 hrd1 k0 k1 k2 k3 k4 k5 k6 k7 j0 j1 j2 j3 j4 j5 j6 j7 jl hB hC hF hrd hG lg lz lR C4
    refine wp_region_any (by kernel_rfl) ?_
    change wpAny _ _ _ _ _ _ _ (World.drew _)
    repeat (first | (refine wpAny_take (i := 0) (v := .pointer (some ⟨R, 0, none⟩)) rfl ?_ ?_ ?_ (fun _ _ _ h => h) (Or.inl ⟨by rfl, ?_⟩) ?_; (· decide +kernel); (· decide +kernel); (· decide +kernel); (· (intro w; go_simp))) | (refine wpAny_take (i := 1) (v := .pointer (some ⟨R, 0, none⟩)) rfl ?_ ?_ ?_ (fun _ _ _ h => h) (Or.inl ⟨by rfl, ?_⟩) ?_; (· decide +kernel); (· decide +kernel); (· decide +kernel); (· (intro w; go_simp))) | (refine wpAny_take (i := 2) (v := .pointer (some ⟨R, 0, none⟩)) rfl ?_ ?_ ?_ (fun _ _ _ h => h) (Or.inl ⟨by rfl, ?_⟩) ?_; (· decide +kernel); (· decide +kernel); (· decide +kernel); (· (intro w; go_simp))) | (refine wpAny_take (i := 3) (v := .pointer (some ⟨R, 0, none⟩)) rfl ?_ ?_ ?_ (fun _ _ _ h => h) (Or.inl ⟨by rfl, ?_⟩) ?_; (· decide +kernel); (· decide +kernel); (· decide +kernel); (· (intro w; go_simp))) | (refine wpAny_take (i := 4) (v := .pointer (some ⟨R, 0, none⟩)) rfl ?_ ?_ ?_ (fun _ _ _ h => h) (Or.inl ⟨by rfl, ?_⟩) ?_; (· decide +kernel); (· decide +kernel); (· decide +kernel); (· (intro w; go_simp))) | (refine wpAny_take (i := 5) (v := .pointer (some ⟨R, 0, none⟩)) rfl ?_ ?_ ?_ (fun _ _ _ h => h) (Or.inl ⟨by rfl, ?_⟩) ?_; (· decide +kernel); (· decide +kernel); (· decide +kernel); (· (intro w; go_simp))) | (refine wpAny_take (i := 6) (v := .func (.func 82) #[.pointer (some ⟨R, 0, none⟩)] #[]) rfl ?_ ?_ ?_ (fun _ _ _ h => h) (Or.inl ⟨by rfl, ?_⟩) ?_; (· decide +kernel); (· decide +kernel); (· decide +kernel); (· (intro w; go_simp))))
    refine wpAny_ready (rs := [7]) (by decide +kernel) (by simp) ?_
    refine AllReady.cons rfl (fun K hK => ?_) AllReady.nil
    go_simp
    refine (someNu_any _ R T bs5 bad (by omega) (by exact hrd5)  C5.head).mono ?_
    rintro e z1 ⟨l6, A6, c6, bs6, rfl, ho6, hll6, hrd6, hgz, hl6, hh6⟩
    obtain ⟨_, C6⟩ := C5.step hh6.out
    clear hh6
    have hrdz := hrd6
    have Kz : W5.grownBy z1 (some R) := grownBy_trans (by exact (grownBy_drew (World.grownBy.refl W5 _))) hgz
    have qz := Kz.size
    have rz := hrdz.lt
    have hgz' : W5.grownBy z1 (some R) := Kz
    have x6 := hC5.grown hgz' (by simp; omega)
    have y6 := hB5.grown hgz' (by simp; omega)
    have hF6 := hF5.keep (Same.of_grown hgz' fun b hb _ => by have := hb.1; simp; omega)
    have hG6 := grownBy_trans hG5 hgz'
    have k0 := x6.cell 0
    have k1 := x6.cell 1
    have k2 := x6.cell 2
    have k3 := x6.cell 3
    have k4 := x6.cell 4
    have k5 := x6.cell 5
    have k6 := x6.cell 6
    have k7 := x6.cell 7
    have j0 := x6.frozen 0
    have j1 := x6.frozen 1
    have j2 := x6.frozen 2
    have j3 := x6.frozen 3
    have j4 := x6.frozen 4
    have j5 := x6.frozen 5
    have j6 := x6.frozen 6
    have j7 := x6.frozen 7
    have jl := x6.lt
    simp only [List.getElem?_cons_succ, List.getElem?_cons_zero] at k0 k1 k2 k3 k4 k5 k6 k7
    try dsimp only
    refine hK _ _ ?_
    clear hK K
    repeat (first | (refine wpAny_take (i := 8) (v := .pointer (some ⟨g, 7, none⟩)) rfl ?_ ?_ ?_ (fun _ _ _ h => h) (Or.inl ⟨by rfl, ?_⟩) ?_; (· decide +kernel); (· decide +kernel); (· decide +kernel); (· (intro w; go_simp))))
    refine wpAny_ready (rs := [9]) (by decide +kernel) (by simp) ?_
    refine AllReady.cons rfl (fun K hK => ?_) AllReady.nil
    go_simp
    refine hK _ _ ?_
    clear hK K
    refine wpAny_done (by decide +kernel) ?_ _
    go_upto_region 4 with (fail)
    obtain ⟨W6, hW6⟩ : ∃ W6, W6 = z1.setCell ⟨g, 7, none⟩ (.slice A6 l6.length c6) := ⟨_, rfl⟩
    have hC6 : Blk W6 g 48 [.int .i64 (x1 : Int), .string sa, .slice A1 ss.length c1, .slice A2 si.length c2, .slice A3 l3.length c3, .int .i64 x4, .slice A5 l5.length c5, .slice A6 l6.length c6] := by rw [hW6]; exact x6.put 7 _
    have hB6 : Blk W6 w.heap.size 48 [.int .i64 0, .string ⟨#[]⟩, .slice none 0 0, .slice none 0 0, .slice none 0 0, .int .i64 0, .slice none 0 0, .slice none 0 0] := by rw [hW6]; exact y6.far (by simp; omega) _
    have hF6' : PF W6 (fun b => w.heap.size < b ∧ b ≠ g) A1 c1 A2 c2 A3 sa ss si l3 := by rw [hW6]; exact hF6.keep fun b hb _ => Below.heap_setCell z1 _ _ b hb.2
    have hG6' : w.grownBy W6 (some R) := by rw [hW6]; exact grownBy_setCell hG6 (.inr (by simp; omega)) _
    obtain ⟨hc6, hm6, hr6⟩ := nums_own ho6
    have hN6 : Reads W6 (fun b => w.heap.size < b ∧ b ≠ g) 1 A6 l6.length (nums l6) := by
      rw [hW6]
      exact (hr6.imp (by omega) fun b hb _ => by have : W5.heap.size ≤ b := hb; omega).keep fun b hb _ => Below.heap_setCell z1 _ _ b hb.2
    have hN5' : Reads W6 (fun b => w.heap.size < b ∧ b ≠ g) 1 A5 l5.length (nums l5) := by
      rw [hW6]
      exact (hN5.keep (Same.of_grown hgz' fun b hb _ => by have := hb.1; simp; omega)).keep fun b hb _ => Below.heap_setCell z1 _ _ b hb.2
    have hrd6' : Rd W6 R T [.int .i64 0] bs6 bad := by rw [hW6]; exact hrd6.keep fun b hb _ => Below.heap_setCell z1 _ _ b (by simp; omega)
    have s6 : Same (fun b => w.heap.size < b ∧ b ≠ g) W6 (setRow W6 w.heap.size 0 [.int .i64 (x1 : Int), .string sa, .slice A1 ss.length c1, .slice A2 si.length c2, .slice A3 l3.length c3, .int .i64 x4, .slice A5 l5.length c5, .slice A6 l6.length c6]) := setRow_same (by simp) _ _ _
    have hfin : RzPost (PcCells 41) (decP 40) w R T bs (.returned (.agg #[.int .i64 (x1 : Int), .string sa, .slice A1 ss.length c1, .slice A2 si.length c2, .slice A3 l3.length c3, .int .i64 x4, .slice A5 l5.length c5, .slice A6 l6.length c6])) (setRow W6 w.heap.size 0 [.int .i64 (x1 : Int), .string sa, .slice A1 ss.length c1, .slice A2 si.length c2, .slice A3 l3.length c3, .int .i64 x4, .slice A5 l5.length c5, .slice A6 l6.length c6]) := by
      obtain ⟨p1, vs3, p2, p3⟩ := hF6'.keep s6
      exact ⟨⟨x1, ⟨sa, ss, si⟩, l3, x4, l5, l6⟩, [.int .i64 (x1 : Int), .string sa, .slice A1 ss.length c1, .slice A2 si.length c2, .slice A3 l3.length c3, .int .i64 x4, .slice A5 l5.length c5, .slice A6 l6.length c6], bs6, bad, rfl, ⟨[.string sa, .slice A1 ss.length c1, .slice A2 si.length c2], A3, c3, vs3, A5, c5, A6, c6, rfl, ⟨by simp only; omega, by simp only; omega⟩, hn4, (SvCells.stable 41).imp p1 fun b hb _ => by omega, ⟨hll3, hc3, hm3⟩, ⟨hll5, hc5, hm5⟩, ⟨hll6, hc6, hm6⟩, p2.imp (by omega) fun b hb _ => by omega, p3.imp fun _ _ h => (LCells.stable 41).imp h fun b hb _ => by omega, (hN5'.keep s6).imp (by omega) fun b hb _ => by omega, (hN6.keep s6).imp (by omega) fun b hb _ => by omega⟩,
        hrd6'.keep (setRow_same (by omega) _ _ _), setRow_grown (.inr (Nat.le_refl _)) _ _ _ hG6', by omega, E1.out.trans C6.fin⟩
    have hq := setRow_blk hB6 [.int .i64 (x1 : Int), .string sa, .slice A1 ss.length c1, .slice A2 si.length c2, .slice A3 l3.length c3, .int .i64 x4, .slice A5 l5.length c5, .slice A6 l6.length c6] rfl
    simp only [setRow, Nat.reduceAdd] at hfin hq
    have Hfin := Lib.hid hfin
    have Hq := Lib.hid hq
    rw [← hW6]
    clear k0 k1 k2 k3 k4 k5 k6 k7 j0 j1 j2 j3 j4 j5 j6 j7 jl
    have m0 := hC6.cell 0
    have m1 := hC6.cell 1
    have m2 := hC6.cell 2
    have m3 := hC6.cell 3
    have m4 := hC6.cell 4
    have m5 := hC6.cell 5
    have m6 := hC6.cell 6
    have m7 := hC6.cell 7
    simp only [List.getElem?_cons_succ, List.getElem?_cons_zero] at m0 m1 m2 m3 m4 m5 m6 m7
    have p0 := hB6.cell 0
    have p1 := hB6.cell 1
    have p2 := hB6.cell 2
    have p3 := hB6.cell 3
    have p4 := hB6.cell 4
    have p5 := hB6.cell 5
    have p6 := hB6.cell 6
    have p7 := hB6.cell 7
    have u0 := hB6.frozen 0
    have u1 := hB6.frozen 1
    have u2 := hB6.frozen 2
    have u3 := hB6.frozen 3
    have u4 := hB6.frozen 4
    have u5 := hB6.frozen 5
    have u6 := hB6.frozen 6
    have u7 := hB6.frozen 7
    simp only [List.getElem?_cons_succ, List.getElem?_cons_zero] at p0 p1 p2 p3 p4 p5 p6 p7
    have lz6 := hB6.lt
    clear hfin hq hW6 hB5 hC5 hB6 hC6 hrd5 hrd6 hrd6' hG5 hG6 hG6' hF5 hF6 hF6' hN5 hN5' hN6 hr6 ho6 x6 y6 C5 C6 s6
    go_wp2_with (fail)
    refine ret_blk rfl rfl Hq.out Try.underlying48 (by kernel_rfl) rfl ?_
    exact Hfin.out
end Go.Proofs.Yteojmmjanjilaaa
