/- What letterOf makes of raw ones; its contract. (Printed by mailof.py.) -/
import Derived.Test.YteojmmjanjilaaaPart14
import Derived.Deep.RegionHeld3
set_option linter.unusedVariables false
namespace Go.Val
open Go.RowKit Go.Mem
def letH (r : Raw) (k : Int) (v : V) : L := ⟨k, restN r.a 3000, restN r.b 3000, if k = 2 then restN r.a 3 else 0, if k = 2 ∨ k = 5 then cutText r.text else ⟨#[]⟩, v⟩
/-- the letter of raw ones -/
def letF : List Raw → L
  | [] => ⟨3, 0, 0, 0, ⟨#[]⟩, zeroV⟩
  | r :: t => letH r (1 + restN r.kind 5) (if 1 + restN r.kind 5 = 1 then valF t else zeroV)
theorem letF_cons (r : Raw) (t : List Raw) {q : Int} (h : restN r.kind 5 = q) : letF (r :: t) = letH r (1 + q) (if 1 + q = 1 then valF t else zeroV) := by subst h; rfl
theorem rest_fits (n many : Int) (h : 0 < many) (h2 : many ≤ 5000) : Fits64 (restN n many) := by
  have : 0 ≤ restN n many ∧ restN n many < many := by
    unfold restN
    split
    · exact ⟨Int.emod_nonneg _ (by omega), Int.emod_lt_of_pos _ h⟩
    · exact ⟨Int.emod_nonneg _ (by omega), Int.emod_lt_of_pos _ h⟩
  exact ⟨by omega, by omega⟩
end Go.Val
namespace Go.Proofs.Yteojmmjanjilaaa
open Go.RowKit Go.Mem Go.Val

def LoPost (w : World) (x : L) (e : Ending) (w' : World) : Prop := ∃ cs, e = .returned (.agg cs.toArray) ∧ LCells 41 w' (fun b => w.heap.size ≤ b) cs x ∧ Below w.heap.size w w'
theorem loFin {w W : World} {x : L} {cs : List Value} (hB : Blk W w.heap.size 55 [.int .i64 0, .int .i64 0, .int .i64 0, .int .i64 0, .string ⟨#[]⟩, .int .i64 0, .int .i64 0, .string ⟨#[]⟩, .slice none 0 0]) (hbel : Below w.heap.size w W) (hv : LCells 41 W (fun b => w.heap.size < b) cs x) :
    LoPost w x (.returned (.agg cs.toArray)) (setRow W w.heap.size 0 cs) ∧ Blk (setRow W w.heap.size 0 cs) w.heap.size 55 cs := by
  have hl := (LCells.stable 41).len hv
  exact ⟨⟨cs, rfl, (LCells.stable 41).imp ((LCells.stable 41).keep hv (setRow_same (by omega) _ _ _)) fun b hb _ => by omega, setRow_below (Nat.le_refl _) _ _ _ hbel⟩, setRow_blk hB cs (by rw [hl]; rfl)⟩
def LoMid (w : World) (rk ra rb : Int) (rt : ByteArray) (s4 : Value) (wc : World) : Prop :=
  ∃ g, s4 = .pointer (some ⟨g, 0, none⟩) ∧ w.heap.size + 1 < g ∧ Blk wc g 55 [.int .i64 (1 + restI rk 5), .int .i64 (restI ra 3000), .int .i64 (restI rb 3000), .int .i64 0, .string ⟨#[]⟩, .int .i64 0, .int .i64 0, .string ⟨#[]⟩, .slice none 0 0] ∧ Blk wc w.heap.size 55 [.int .i64 0, .int .i64 0, .int .i64 0, .int .i64 0, .string ⟨#[]⟩, .int .i64 0, .int .i64 0, .string ⟨#[]⟩, .slice none 0 0] ∧ Blk wc (w.heap.size + 1) 80 [.int .i64 rk, .int .i64 ra, .int .i64 rb, .string rt] ∧ Below w.heap.size w wc
theorem lcells_mk {d : Nat} {w : World} {D : Nat → Prop} {k num : Int} {ra rb : Int} {t : ByteArray} {v : V} {vs : List Value} (hk : 0 ≤ k ∧ k ≤ 5) (hn : 0 ≤ num ∧ num ≤ 5000) (ht : t.size ≤ 4000) (hv : VCells d w D vs v) :
    LCells d w D (.int .i64 k :: .int .i64 (restI ra 3000) :: .int .i64 (restI rb 3000) :: .int .i64 num :: .string t :: vs) ⟨k, restN ra 3000, restN rb 3000, num, t, v⟩ :=
  ⟨vs, rfl, ⟨⟨by simp only; omega, by simp only; omega⟩, rest_fits _ _ (by omega) (by omega), rest_fits _ _ (by omega) (by omega), ⟨by simp only; omega, by simp only; omega⟩, by simp only; omega⟩, hv⟩

set_option maxRecDepth 100000 in
set_option maxHeartbeats 4000000 in
/-- letterOf: the letter that raw ones say -/
theorem letterOf_any (l : List Raw) (A : Option Addr) (n c : Nat) (rss : List (List Value)) (w : World) (hn : n = l.length) (hnc : n ≤ c) (hcm : c ≤ maxLen) (hr : Reads w Any 4 A n rss.flatten) (ha : All2 (RawCells w Any) rss l) :
    Calls Try.prog 13 #[.slice A n c] w (LoPost w (letF l)) := by
  have hZ := Blk.new w 55 [.int .i64 0, .int .i64 0, .int .i64 0, .int .i64 0, .string ⟨#[]⟩, .int .i64 0, .int .i64 0, .string ⟨#[]⟩, .slice none 0 0]
  have hbel0 : Below w.heap.size w (w.alloc (.cells #[.int .i64 0, .int .i64 0, .int .i64 0, .int .i64 0, .string ⟨#[]⟩, .int .i64 0, .int .i64 0, .string ⟨#[]⟩, .slice none 0 0] 55)) := (Below.refl _ _).alloc (Nat.le_refl _) _
  cases l with
  | nil =>
    obtain rfl : n = 0 := by simpa using hn
    obtain ⟨W, hW⟩ : ∃ W, W = w.alloc (.cells #[.int .i64 0, .int .i64 0, .int .i64 0, .int .i64 0, .string ⟨#[]⟩, .int .i64 0, .int .i64 0, .string ⟨#[]⟩, .slice none 0 0] 55) := ⟨_, rfl⟩
    rw [← hW] at hbel0
    have hB : Blk W w.heap.size 55 [.int .i64 0, .int .i64 0, .int .i64 0, .int .i64 0, .string ⟨#[]⟩, .int .i64 0, .int .i64 0, .string ⟨#[]⟩, .slice none 0 0] := by rw [hW]; exact hZ
    have hfin := loFin hB hbel0 (x := letF []) (cs := [.int .i64 3, .int .i64 0, .int .i64 0, .int .i64 0, .string ⟨#[]⟩, .int .i64 0, .int .i64 0, .string ⟨#[]⟩, .slice none 0 0]) ⟨_, rfl, ⟨⟨by decide, by decide⟩, ⟨by decide, by decide⟩, ⟨by decide, by decide⟩, ⟨by decide, by decide⟩, by decide⟩, VCells.zero 40 _ _⟩
    simp only [setRow, Nat.reduceAdd] at hfin
    have Hfin := Lib.hid hfin
    have HW := Lib.hid hW
    have p0 := hB.cell 0
    have p1 := hB.cell 1
    have p2 := hB.cell 2
    have p3 := hB.cell 3
    have p4 := hB.cell 4
    have p5 := hB.cell 5
    have p6 := hB.cell 6
    have p7 := hB.cell 7
    have p8 := hB.cell 8
    have u0 := hB.frozen 0
    have u1 := hB.frozen 1
    have u2 := hB.frozen 2
    have u3 := hB.frozen 3
    have u4 := hB.frozen 4
    have u5 := hB.frozen 5
    have u6 := hB.frozen 6
    have u7 := hB.frozen 7
    have u8 := hB.frozen 8
    simp only [List.getElem?_cons_succ, List.getElem?_cons_zero] at p0 p1 p2 p3 p4 p5 p6 p7 p8
    have lz := hB.lt
    clear hfin hW hZ hB hbel0 hr ha hn
    go_enter Try.func13, Try.ntmps13
    go_upto_region 1 with (fail)
    rw [← HW.out]
    clear HW
    go_wp2_with (fail)
    refine ret_blk rfl rfl Hfin.out.2 Try.underlying55 (by kernel_rfl) rfl ?_
    exact Hfin.out.1
  | cons r t =>
    obtain ⟨b, off, cs, rfl, hD, hv, hcell⟩ := hr.elem RawCells.stable ha hn (k := 0) (by simp)
    obtain ⟨rk, ra, rb, rt⟩ := r
    obtain ⟨rfl, hfk, hfa, hfb, hft⟩ := hv
    simp only [List.getElem_cons_zero] at hfk hfa hfb hft hcell
    have h0 := hcell 0 _ rfl
    have h1 := hcell 1 _ rfl
    have h2 := hcell 2 _ rfl
    have h3 := hcell 3 _ rfl
    simp only [Nat.zero_mul, Nat.zero_add, Nat.add_zero] at h0 h1 h2 h3
    have lb := lt_of_cell h0
    have hn1 : 1 ≤ n := by rw [hn]; simp
    obtain ⟨A', hs, hr'⟩ := slice_l 22 80 Try.underlying22 (by kernel_rfl) hr hnc 1 hn1 1 rfl
    have ha' : All2 (RawCells w Any) (rss.drop 1) t := by
      obtain ⟨x, rss', rfl⟩ : ∃ x rss', rss = x :: rss' := by
        cases rss with
        | nil => have := ha.1; simp at this
        | cons x rss' => exact ⟨x, rss', rfl⟩
      exact ⟨by have := ha.1; simpa using this, fun i a b h1 h2 => ha.2 (i + 1) a b (by simpa using h1) (by simpa using h2)⟩
    have hflat : rss.flatten.drop (1 * 4) = (rss.drop 1).flatten := by
      cases rss with
      | nil => rfl
      | cons x rss' =>
        have hx : x.length = 4 := ha.lens RawCells.stable x (by simp)
        simp [List.flatten_cons, ← hx]
    rw [hflat] at hr'
    have Ht := Lib.hid (show n - 1 = t.length by rw [hn]; simp)
    clear hflat hcell hn ha hr
    have q1 := restI_bd rk 5 (by omega)
    have q2 := restI_bd ra 3000 (by omega)
    have q3 := restI_bd rb 3000 (by omega)
    have q4 := restI_bd ra 3 (by omega)
    obtain ⟨q1a, q1b⟩ := q1
    obtain ⟨q4a, q4b⟩ := q4
    have hct : (cutText rt).size ≤ 4000 := by have := cutText_size rt; omega
    have hk' : I64 rk := hfk
    have ha1 : I64 ra := hfa
    have hb1 : I64 rb := hfb
    obtain ⟨W, hW⟩ : ∃ W, W = (w.alloc (.cells #[.int .i64 0, .int .i64 0, .int .i64 0, .int .i64 0, .string ⟨#[]⟩, .int .i64 0, .int .i64 0, .string ⟨#[]⟩, .slice none 0 0] 55)).alloc (.cells #[.int .i64 rk, .int .i64 ra, .int .i64 rb, .string rt] 80) := ⟨_, rfl⟩
    have hB : Blk W w.heap.size 55 [.int .i64 0, .int .i64 0, .int .i64 0, .int .i64 0, .string ⟨#[]⟩, .int .i64 0, .int .i64 0, .string ⟨#[]⟩, .slice none 0 0] := by rw [hW]; exact hZ.alloc _
    have hR : Blk W (w.heap.size + 1) 80 [.int .i64 rk, .int .i64 ra, .int .i64 rb, .string rt] := by
      rw [hW]
      have := Blk.new (w.alloc (.cells #[.int .i64 0, .int .i64 0, .int .i64 0, .int .i64 0, .string ⟨#[]⟩, .int .i64 0, .int .i64 0, .string ⟨#[]⟩, .slice none 0 0] 55)) 80 [.int .i64 rk, .int .i64 ra, .int .i64 rb, .string rt]
      simpa using this
    have hbW : Below w.heap.size w W := by rw [hW]; exact hbel0.alloc hbel0.size _
    have HW := Lib.hid hW
    clear hW hZ hbel0
    go_enter Try.func13, Try.ntmps13
    go_upto_region 4 with (fail)
    rw [← HW.out]
    clear HW h0 h1 h2 h3 lb
    have k0 := hR.cell 0
    have k1 := hR.cell 1
    have k2 := hR.cell 2
    have k3 := hR.cell 3
    simp only [List.getElem?_cons_succ, List.getElem?_cons_zero] at k0 k1 k2 k3
    have lr := hR.lt
    have HB := Lib.hid hB
    have HR := Lib.hid hR
    have HbW := Lib.hid hbW
    clear hB hR hbW
    go_cut [4] (fun s4 wc => LoMid w rk ra rb rt s4 wc)
    case first =>
      go_region_held3 (fun w' => w'.cell? ⟨w.heap.size + 1, 0, none⟩ = some (.int .i64 rk) ∧ w'.cell? ⟨w.heap.size + 1, 1, none⟩ = some (.int .i64 ra) ∧ w'.cell? ⟨w.heap.size + 1, 2, none⟩ = some (.int .i64 rb) ∧ w'.cell? ⟨w.heap.size + 1, 3, none⟩ = some (.string rt)) (first | exact ⟨k0, k1, k2, k3⟩ | simp [go_sem, k0, k1, k2, k3, lr])
        ((go_at_call 11; refine (rest_any _ _ _ (by assumption) (by omega) (by omega)).mono ?_; rintro e w' ⟨rfl, rfl⟩))
      all_goals go_wp2_with (fail)
      all_goals go_meet
      all_goals
        rw [IntWalk.i64_in _ (by omega)]
        exact ⟨W.heap.size, rfl, lr, Blk.new W _ _, (HB.out.alloc _), (HR.out.alloc _), (HbW.out.alloc HbW.out.size _).drew⟩
    case rest =>
      obtain ⟨g, rfl, hgw, hC, hB, hR, hbW⟩ := hcut
      clear k0 k1 k2 k3 lr HB HR HbW
      have lg := hC.lt
      have lz := hB.lt
      have lr := hR.lt
      generalize hq : restI rk 5 = q at q1a q1b hC
      have Hq : Hid (restN rk 5 = q) := hq
      clear hq
      obtain rfl | rfl | rfl | rfl | rfl : q = 0 ∨ q = 1 ∨ q = 2 ∨ q = 3 ∨ q = 4 := by omega
      · have hr1 := hr'.keep (Same.any (D := Any) hbW)
        have VO := Lib.hid (valueOf_any t A' (n - 1) (c - 1) (rss.drop 1) wc Ht.out (by omega) (by omega) hr1 (ha'.imp fun _ _ h => h))
        have c0 := hC.cell 0
        simp only [List.getElem?_cons_zero] at c0
        clear hr1 hr'
        go_wp2_with (fail)
        refine VO.out.mono ?_
        rintro e w3 ⟨A3, c3, rfl, hv3, hb3⟩
        have Hv : Hid (letF (⟨rk, ra, rb, rt⟩ :: t) = ⟨1, restN ra 3000, restN rb 3000, 0, ⟨#[]⟩, valF t⟩) := by
          unfold Hid
          rw [letF_cons _ t Hq.out]
          simp [letH]
        generalize valF t = X at hv3 Hv ⊢
        obtain ⟨vk, vn, vt, va⟩ := X
        simp only [vagg, vcells, V.kind, V.num, V.text, V.args] at hv3 ⊢
        have hB3 := hB.below hb3 lz
        have hC3 := hC.below hb3 lg
        have hb3' : Below w.heap.size w w3 := hbW.trans (hb3.mono hbW.size)
        obtain ⟨W4, hW4⟩ : ∃ W4, W4 = setRow w3 g 5 [.int .i64 vk, .int .i64 vn, .string vt, .slice A3 va.length c3] := ⟨_, rfl⟩
        have hC4 : Blk W4 g 55 [.int .i64 1, .int .i64 (restI ra 3000), .int .i64 (restI rb 3000), .int .i64 0, .string ⟨#[]⟩, .int .i64 vk, .int .i64 vn, .string vt, .slice A3 va.length c3] := by rw [hW4]; exact setRow_blk_at _ [.int .i64 1, .int .i64 (restI ra 3000), .int .i64 (restI rb 3000), .int .i64 0, .string ⟨#[]⟩] _ _ hC3 rfl
        have hB4 : Blk W4 w.heap.size 55 [.int .i64 0, .int .i64 0, .int .i64 0, .int .i64 0, .string ⟨#[]⟩, .int .i64 0, .int .i64 0, .string ⟨#[]⟩, .slice none 0 0] := by rw [hW4]; exact hB3.same (D := fun b => b ≠ g) (setRow_same (by simp) _ _ _) (by omega)
        have hb4 : Below w.heap.size w W4 := by rw [hW4]; exact setRow_below (by omega) _ _ _ hb3'
        have hv4 : VCells 21 W4 (fun b => wc.heap.size ≤ b) [.int .i64 vk, .int .i64 vn, .string vt, .slice A3 va.length c3] (V.mk vk vn vt va) := by rw [hW4]; exact hv3.keep (setRow_same (by omega) _ _ _)
        have hfin := loFin hB4 hb4 (x := ⟨1, restN ra 3000, restN rb 3000, 0, ⟨#[]⟩, V.mk vk vn vt va⟩) (cs := [.int .i64 1, .int .i64 (restI ra 3000), .int .i64 (restI rb 3000), .int .i64 0, .string ⟨#[]⟩, .int .i64 vk, .int .i64 vn, .string vt, .slice A3 va.length c3]) (lcells_mk (by omega) (by omega) (by decide) ((VCells.le (by omega) hv4).imp fun b hb _ => by omega))
        simp only [setRow, Nat.reduceAdd] at hfin hW4
        have Hfin := Lib.hid hfin
        have HW4 := Lib.hid hW4
        have q0 := hC3.cell 0
        have q1 := hC3.cell 1
        have q2 := hC3.cell 2
        have q3 := hC3.cell 3
        have q4 := hC3.cell 4
        have q5 := hC3.cell 5
        have q6 := hC3.cell 6
        have q7 := hC3.cell 7
        have q8 := hC3.cell 8
        have v0 := hC3.frozen 0
        have v1 := hC3.frozen 1
        have v2 := hC3.frozen 2
        have v3 := hC3.frozen 3
        have v4 := hC3.frozen 4
        have v5 := hC3.frozen 5
        have v6 := hC3.frozen 6
        have v7 := hC3.frozen 7
        have v8 := hC3.frozen 8
        simp only [List.getElem?_cons_succ, List.getElem?_cons_zero] at q0 q1 q2 q3 q4 q5 q6 q7 q8
        have lz3 := hC3.lt
        have m0 := hC4.cell 0
        have m1 := hC4.cell 1
        have m2 := hC4.cell 2
        have m3 := hC4.cell 3
        have m4 := hC4.cell 4
        have m5 := hC4.cell 5
        have m6 := hC4.cell 6
        have m7 := hC4.cell 7
        have m8 := hC4.cell 8
        simp only [List.getElem?_cons_succ, List.getElem?_cons_zero] at m0 m1 m2 m3 m4 m5 m6 m7 m8
        have p0 := hB4.cell 0
        have p1 := hB4.cell 1
        have p2 := hB4.cell 2
        have p3 := hB4.cell 3
        have p4 := hB4.cell 4
        have p5 := hB4.cell 5
        have p6 := hB4.cell 6
        have p7 := hB4.cell 7
        have p8 := hB4.cell 8
        have u0 := hB4.frozen 0
        have u1 := hB4.frozen 1
        have u2 := hB4.frozen 2
        have u3 := hB4.frozen 3
        have u4 := hB4.frozen 4
        have u5 := hB4.frozen 5
        have u6 := hB4.frozen 6
        have u7 := hB4.frozen 7
        have u8 := hB4.frozen 8
        simp only [List.getElem?_cons_succ, List.getElem?_cons_zero] at p0 p1 p2 p3 p4 p5 p6 p7 p8
        have lz4 := hB4.lt
        clear hfin hW4 hB hC hR hB3 hC3 hB4 hC4 hb3 hb3' hb4 hv3 hv4
        go_upto_region 12 with (fail)
        rw [← HW4.out]
        clear HW4 q0 q1 q2 q3 q4 q5 q6 q7 q8 v0 v1 v2 v3 v4 v5 v6 v7 v8 lz3
        go_wp2_with (fail)
        refine ret_blk rfl rfl Hfin.out.2 Try.underlying55 (by kernel_rfl) rfl ?_
        rw [Hv.out]
        exact Hfin.out.1
      · have Hv : Hid (letF (⟨rk, ra, rb, rt⟩ :: t) = ⟨2, restN ra 3000, restN rb 3000, restN ra 3, cutText rt, zeroV⟩) := by
          unfold Hid
          rw [letF_cons _ t Hq.out]
          simp [letH]
        obtain ⟨W4, hW4⟩ : ∃ W4, W4 = (((wc.setCell ⟨g, 3, none⟩ (.int .i64 (restI ra 3))).setCell ⟨g, 4, none⟩ (.string (cutText rt))).alloc (.cells #[.int .i64 rk, .int .i64 ra, .int .i64 rb, .string rt] 80)).drew := ⟨_, rfl⟩
        have hC4 : Blk W4 g 55 [.int .i64 2, .int .i64 (restI ra 3000), .int .i64 (restI rb 3000), .int .i64 (restI ra 3), .string (cutText rt), .int .i64 0, .int .i64 0, .string ⟨#[]⟩, .slice none 0 0] := by rw [hW4]; exact (((hC.put 3 _).put 4 _).alloc _).drew
        have hB4 : Blk W4 w.heap.size 55 [.int .i64 0, .int .i64 0, .int .i64 0, .int .i64 0, .string ⟨#[]⟩, .int .i64 0, .int .i64 0, .string ⟨#[]⟩, .slice none 0 0] := by rw [hW4]; exact (((hB.far (by simp; omega) _).far (by simp; omega) _).alloc _).drew
        have hb4 : Below w.heap.size w W4 := by rw [hW4]; exact ((((hbW.setCell (by simp; omega) _).setCell (by simp; omega) _).alloc (by simp [World.setCell]; exact hbW.size) _)).drew
        have hfin := loFin hB4 hb4 (x := ⟨2, restN ra 3000, restN rb 3000, restN ra 3, cutText rt, zeroV⟩) (cs := [.int .i64 2, .int .i64 (restI ra 3000), .int .i64 (restI rb 3000), .int .i64 (restI ra 3), .string (cutText rt), .int .i64 0, .int .i64 0, .string ⟨#[]⟩, .slice none 0 0]) (lcells_mk (by omega) ⟨q4a, by have : restI ra 3 < 3 := q4b; have e : restN ra 3 = restI ra 3 := rfl; omega⟩ hct (VCells.zero 40 _ _))
        simp only [setRow, Nat.reduceAdd] at hfin
        have Hfin := Lib.hid hfin
        have HW4 := Lib.hid hW4
        have q0 := hC.cell 0
        have q1 := hC.cell 1
        have q2 := hC.cell 2
        have q3 := hC.cell 3
        have q4 := hC.cell 4
        have q5 := hC.cell 5
        have q6 := hC.cell 6
        have q7 := hC.cell 7
        have q8 := hC.cell 8
        have v0 := hC.frozen 0
        have v1 := hC.frozen 1
        have v2 := hC.frozen 2
        have v3 := hC.frozen 3
        have v4 := hC.frozen 4
        have v5 := hC.frozen 5
        have v6 := hC.frozen 6
        have v7 := hC.frozen 7
        have v8 := hC.frozen 8
        simp only [List.getElem?_cons_succ, List.getElem?_cons_zero] at q0 q1 q2 q3 q4 q5 q6 q7 q8
        have k0 := hR.cell 0
        have k1 := hR.cell 1
        have k2 := hR.cell 2
        have k3 := hR.cell 3
        simp only [List.getElem?_cons_succ, List.getElem?_cons_zero] at k0 k1 k2 k3
        have m0 := hC4.cell 0
        have m1 := hC4.cell 1
        have m2 := hC4.cell 2
        have m3 := hC4.cell 3
        have m4 := hC4.cell 4
        have m5 := hC4.cell 5
        have m6 := hC4.cell 6
        have m7 := hC4.cell 7
        have m8 := hC4.cell 8
        simp only [List.getElem?_cons_succ, List.getElem?_cons_zero] at m0 m1 m2 m3 m4 m5 m6 m7 m8
        have p0 := hB4.cell 0
        have p1 := hB4.cell 1
        have p2 := hB4.cell 2
        have p3 := hB4.cell 3
        have p4 := hB4.cell 4
        have p5 := hB4.cell 5
        have p6 := hB4.cell 6
        have p7 := hB4.cell 7
        have p8 := hB4.cell 8
        have u0 := hB4.frozen 0
        have u1 := hB4.frozen 1
        have u2 := hB4.frozen 2
        have u3 := hB4.frozen 3
        have u4 := hB4.frozen 4
        have u5 := hB4.frozen 5
        have u6 := hB4.frozen 6
        have u7 := hB4.frozen 7
        have u8 := hB4.frozen 8
        simp only [List.getElem?_cons_succ, List.getElem?_cons_zero] at p0 p1 p2 p3 p4 p5 p6 p7 p8
        have lz4 := hB4.lt
        clear hfin hW4 hB hC hR hB4 hC4 hbW hb4 hr' ha'
        go_upto_region 9 with (fail)
        go_region_held3 (fun w' => w'.cell? ⟨w.heap.size + 1, 0, none⟩ = some (.int .i64 rk) ∧ w'.cell? ⟨w.heap.size + 1, 1, none⟩ = some (.int .i64 ra) ∧ w'.cell? ⟨w.heap.size + 1, 2, none⟩ = some (.int .i64 rb) ∧ w'.cell? ⟨w.heap.size + 1, 3, none⟩ = some (.string rt)) (first | exact ⟨k0, k1, k2, k3⟩ | simp [go_sem, k0, k1, k2, k3, lr])
          (first
            | (go_at_call 11; refine (rest_any _ _ _ (by assumption) (by omega) (by omega)).mono ?_; rintro e w' ⟨rfl, rfl⟩)
            | (go_at_call 28; refine (text_any _ _ _ _ _ hft).mono ?_; rintro e w' ⟨rfl, rfl⟩))
        all_goals go_upto_region 12 with (fail)
        all_goals rw [← HW4.out]
        all_goals clear HW4 q0 q1 q2 q3 q4 q5 q6 q7 q8 v0 v1 v2 v3 v4 v5 v6 v7 v8 k0 k1 k2 k3
        all_goals go_wp2_with (fail)
        all_goals refine ret_blk rfl rfl Hfin.out.2 Try.underlying55 (by kernel_rfl) rfl ?_
        all_goals rw [Hv.out]
        all_goals exact Hfin.out.1
      · have Hv : Hid (letF (⟨rk, ra, rb, rt⟩ :: t) = ⟨3, restN ra 3000, restN rb 3000, 0, ⟨#[]⟩, zeroV⟩) := by
          unfold Hid
          rw [letF_cons _ t Hq.out]
          simp [letH]
        have hfin := loFin hB hbW (x := ⟨3, restN ra 3000, restN rb 3000, 0, ⟨#[]⟩, zeroV⟩) (cs := [.int .i64 3, .int .i64 (restI ra 3000), .int .i64 (restI rb 3000), .int .i64 0, .string ⟨#[]⟩, .int .i64 0, .int .i64 0, .string ⟨#[]⟩, .slice none 0 0]) (lcells_mk (by omega) (by omega) (by decide) (VCells.zero 40 _ _))
        simp only [setRow, Nat.reduceAdd] at hfin
        have Hfin := Lib.hid hfin
        have m0 := hC.cell 0
        have m1 := hC.cell 1
        have m2 := hC.cell 2
        have m3 := hC.cell 3
        have m4 := hC.cell 4
        have m5 := hC.cell 5
        have m6 := hC.cell 6
        have m7 := hC.cell 7
        have m8 := hC.cell 8
        simp only [List.getElem?_cons_succ, List.getElem?_cons_zero] at m0 m1 m2 m3 m4 m5 m6 m7 m8
        have p0 := hB.cell 0
        have p1 := hB.cell 1
        have p2 := hB.cell 2
        have p3 := hB.cell 3
        have p4 := hB.cell 4
        have p5 := hB.cell 5
        have p6 := hB.cell 6
        have p7 := hB.cell 7
        have p8 := hB.cell 8
        have u0 := hB.frozen 0
        have u1 := hB.frozen 1
        have u2 := hB.frozen 2
        have u3 := hB.frozen 3
        have u4 := hB.frozen 4
        have u5 := hB.frozen 5
        have u6 := hB.frozen 6
        have u7 := hB.frozen 7
        have u8 := hB.frozen 8
        simp only [List.getElem?_cons_succ, List.getElem?_cons_zero] at p0 p1 p2 p3 p4 p5 p6 p7 p8
        clear hfin hB hC hR hbW hr' ha'
        go_wp2_with (fail)
        refine ret_blk rfl rfl Hfin.out.2 Try.underlying55 (by kernel_rfl) rfl ?_
        rw [Hv.out]
        exact Hfin.out.1
      · have Hv : Hid (letF (⟨rk, ra, rb, rt⟩ :: t) = ⟨4, restN ra 3000, restN rb 3000, 0, ⟨#[]⟩, zeroV⟩) := by
          unfold Hid
          rw [letF_cons _ t Hq.out]
          simp [letH]
        have hfin := loFin hB hbW (x := ⟨4, restN ra 3000, restN rb 3000, 0, ⟨#[]⟩, zeroV⟩) (cs := [.int .i64 4, .int .i64 (restI ra 3000), .int .i64 (restI rb 3000), .int .i64 0, .string ⟨#[]⟩, .int .i64 0, .int .i64 0, .string ⟨#[]⟩, .slice none 0 0]) (lcells_mk (by omega) (by omega) (by decide) (VCells.zero 40 _ _))
        simp only [setRow, Nat.reduceAdd] at hfin
        have Hfin := Lib.hid hfin
        have m0 := hC.cell 0
        have m1 := hC.cell 1
        have m2 := hC.cell 2
        have m3 := hC.cell 3
        have m4 := hC.cell 4
        have m5 := hC.cell 5
        have m6 := hC.cell 6
        have m7 := hC.cell 7
        have m8 := hC.cell 8
        simp only [List.getElem?_cons_succ, List.getElem?_cons_zero] at m0 m1 m2 m3 m4 m5 m6 m7 m8
        have p0 := hB.cell 0
        have p1 := hB.cell 1
        have p2 := hB.cell 2
        have p3 := hB.cell 3
        have p4 := hB.cell 4
        have p5 := hB.cell 5
        have p6 := hB.cell 6
        have p7 := hB.cell 7
        have p8 := hB.cell 8
        have u0 := hB.frozen 0
        have u1 := hB.frozen 1
        have u2 := hB.frozen 2
        have u3 := hB.frozen 3
        have u4 := hB.frozen 4
        have u5 := hB.frozen 5
        have u6 := hB.frozen 6
        have u7 := hB.frozen 7
        have u8 := hB.frozen 8
        simp only [List.getElem?_cons_succ, List.getElem?_cons_zero] at p0 p1 p2 p3 p4 p5 p6 p7 p8
        clear hfin hB hC hR hbW hr' ha'
        go_wp2_with (fail)
        refine ret_blk rfl rfl Hfin.out.2 Try.underlying55 (by kernel_rfl) rfl ?_
        rw [Hv.out]
        exact Hfin.out.1
      · have Hv : Hid (letF (⟨rk, ra, rb, rt⟩ :: t) = ⟨5, restN ra 3000, restN rb 3000, 0, cutText rt, zeroV⟩) := by
          unfold Hid
          rw [letF_cons _ t Hq.out]
          simp [letH]
        obtain ⟨W4, hW4⟩ : ∃ W4, W4 = (wc.setCell ⟨g, 4, none⟩ (.string (cutText rt))).alloc (.cells #[.int .i64 rk, .int .i64 ra, .int .i64 rb, .string rt] 80) := ⟨_, rfl⟩
        have hC4 : Blk W4 g 55 [.int .i64 5, .int .i64 (restI ra 3000), .int .i64 (restI rb 3000), .int .i64 0, .string (cutText rt), .int .i64 0, .int .i64 0, .string ⟨#[]⟩, .slice none 0 0] := by rw [hW4]; exact (hC.put 4 _).alloc _
        have hB4 : Blk W4 w.heap.size 55 [.int .i64 0, .int .i64 0, .int .i64 0, .int .i64 0, .string ⟨#[]⟩, .int .i64 0, .int .i64 0, .string ⟨#[]⟩, .slice none 0 0] := by rw [hW4]; exact (hB.far (by simp; omega) _).alloc _
        have hb4 : Below w.heap.size w W4 := by rw [hW4]; exact (hbW.setCell (by simp; omega) _).alloc (by simp [World.setCell]; exact hbW.size) _
        have hfin := loFin hB4 hb4 (x := ⟨5, restN ra 3000, restN rb 3000, 0, cutText rt, zeroV⟩) (cs := [.int .i64 5, .int .i64 (restI ra 3000), .int .i64 (restI rb 3000), .int .i64 0, .string (cutText rt), .int .i64 0, .int .i64 0, .string ⟨#[]⟩, .slice none 0 0]) (lcells_mk (by omega) (by omega) hct (VCells.zero 40 _ _))
        simp only [setRow, Nat.reduceAdd] at hfin
        have Hfin := Lib.hid hfin
        have HW4 := Lib.hid hW4
        have q0 := hC.cell 0
        have q1 := hC.cell 1
        have q2 := hC.cell 2
        have q3 := hC.cell 3
        have q4 := hC.cell 4
        have q5 := hC.cell 5
        have q6 := hC.cell 6
        have q7 := hC.cell 7
        have q8 := hC.cell 8
        have v0 := hC.frozen 0
        have v1 := hC.frozen 1
        have v2 := hC.frozen 2
        have v3 := hC.frozen 3
        have v4 := hC.frozen 4
        have v5 := hC.frozen 5
        have v6 := hC.frozen 6
        have v7 := hC.frozen 7
        have v8 := hC.frozen 8
        simp only [List.getElem?_cons_succ, List.getElem?_cons_zero] at q0 q1 q2 q3 q4 q5 q6 q7 q8
        have k0 := hR.cell 0
        have k1 := hR.cell 1
        have k2 := hR.cell 2
        have k3 := hR.cell 3
        simp only [List.getElem?_cons_succ, List.getElem?_cons_zero] at k0 k1 k2 k3
        have m0 := hC4.cell 0
        have m1 := hC4.cell 1
        have m2 := hC4.cell 2
        have m3 := hC4.cell 3
        have m4 := hC4.cell 4
        have m5 := hC4.cell 5
        have m6 := hC4.cell 6
        have m7 := hC4.cell 7
        have m8 := hC4.cell 8
        simp only [List.getElem?_cons_succ, List.getElem?_cons_zero] at m0 m1 m2 m3 m4 m5 m6 m7 m8
        have p0 := hB4.cell 0
        have p1 := hB4.cell 1
        have p2 := hB4.cell 2
        have p3 := hB4.cell 3
        have p4 := hB4.cell 4
        have p5 := hB4.cell 5
        have p6 := hB4.cell 6
        have p7 := hB4.cell 7
        have p8 := hB4.cell 8
        have u0 := hB4.frozen 0
        have u1 := hB4.frozen 1
        have u2 := hB4.frozen 2
        have u3 := hB4.frozen 3
        have u4 := hB4.frozen 4
        have u5 := hB4.frozen 5
        have u6 := hB4.frozen 6
        have u7 := hB4.frozen 7
        have u8 := hB4.frozen 8
        simp only [List.getElem?_cons_succ, List.getElem?_cons_zero] at p0 p1 p2 p3 p4 p5 p6 p7 p8
        have lz4 := hB4.lt
        clear hfin hW4 hB hC hR hB4 hC4 hbW hb4 hr' ha'
        go_upto_region 12 with (go_at_call 28; refine (text_any _ _ _ _ _ hft).mono ?_; rintro e w' ⟨rfl, rfl⟩)
        rw [← HW4.out]
        clear HW4 q0 q1 q2 q3 q4 q5 q6 q7 q8 v0 v1 v2 v3 v4 v5 v6 v7 v8 k0 k1 k2 k3
        go_wp2_with (fail)
        refine ret_blk rfl rfl Hfin.out.2 Try.underlying55 (by kernel_rfl) rfl ?_
        rw [Hv.out]
        exact Hfin.out.1
end Go.Proofs.Yteojmmjanjilaaa
