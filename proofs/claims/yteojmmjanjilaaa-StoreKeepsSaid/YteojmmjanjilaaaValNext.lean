/- Contracts of Raw.text, valueOf's inner function and valueOf: the value that raw ones say. -/
import Derived.Test.YteojmmjanjilaaaPart5
import Derived.Test.YteojmmjanjilaaaPart3
import Derived.Deep.QuietTactic
import Derived.BigQuiet
import Derived.Deep.RegionHeld3
import Derived.Deep.RegionLaw
import Derived.Deep.DeepCutAuto
import Derived.Deep.CutBlock
import Derived.Deep.LoopGhost
set_option linter.unusedVariables false
namespace Go.Proofs.Yteojmmjanjilaaa
open Go.RowKit Go.Mem Go.Val

theorem restI_eq (n many : Int) : restI n many = restN n many := rfl

set_option maxRecDepth 100000 in
theorem text_any (k a b : Int) (t : ByteArray) (w : World) (ht : t.size ≤ maxLen) :
    Calls Try.prog 28 #[.agg #[.int .i64 k, .int .i64 a, .int .i64 b, .string t]] w fun e w' => e = .returned (.string (cutText t)) ∧ w' = w.alloc (.cells #[.int .i64 k, .int .i64 a, .int .i64 b, .string t] 80) := by
  unfold maxLen at ht
  by_cases h : t.size ≤ 20
  · have e : Hid (cutText t = t) := by
      unfold Hid cutText
      rw [Nat.min_eq_left h]
      exact ByteArray.extract_zero_size
    go_enter Try.func28, Try.ntmps28
    go_wp2
    go_ret
    rw [e.out]
    exact ⟨rfl, rfl⟩
  · have e : Hid (cutText t = t.extract 0 20) := by
      unfold Hid cutText
      rw [Nat.min_eq_right (by omega)]
    go_enter Try.func28, Try.ntmps28
    go_wp2
    go_ret
    rw [e.out]
    exact ⟨rfl, rfl⟩

/-- the four cells of a value as one -/
abbrev vagg (v : V) (A : Option Addr) (c : Nat) : Value := .agg #[.int .i64 v.kind, .int .i64 v.num, .string v.text, .slice A v.args.length c]
abbrev vcells (v : V) (A : Option Addr) (c : Nat) : List Value := [.int .i64 v.kind, .int .i64 v.num, .string v.text, .slice A v.args.length c]
def NextPost (l : List Raw) (d at_ : Nat) (w : World) (e : Ending) (w' : World) : Prop :=
  ∃ A c, e = .returned (vagg (nextF l d at_).1 A c) ∧ VCells (d + 1) w' (fun b => w.heap.size ≤ b) (vcells (nextF l d at_).1 A c) (nextF l d at_).1

theorem info_val : (Try.prog.info? 53).map (fun i => (i.zero, i.size, i.bytes)) = some (some (.agg #[.int .i64 0, .int .i64 0, .string ⟨#[]⟩, .slice none 0 0]), 4, 56) := by kernel_rfl
/-- append of values onto a row of the call's own, in a region that draws its order -/
theorem step_app_val (w : World) {ops : Array Oper} {o : Oper} {a : Act} {K : Act → World → Prop} {Q : Exit → Act → World → Prop} {E : Prop} (hgd : o.guard = none) (s x : Operand)
    (ho : o.op = .call { callee := .builtin .append, args := #[s, x], argTypes := #[41, 41] })
    {base : Nat} {v : Value} {n : Nat} {xs : List Value} (hown : w.ownsRow base 53 4 v n xs) (hs : a.eval s = v)
    {D : Nat → Prop} {A : Option Addr} {m : Nat} {news : List Value} (hr : Reads w D 4 A m news) {c : Nat} (hx : a.eval x = .slice A m c) (h1 : ∀ u ∈ news, u.oneCell' = true)
    (h63 : n + m ≤ 1099511627776) (hbase : base ≤ w.heap.size)
    (h : ∀ v' w', w'.ownsRow base 53 4 v' (n + m) (xs ++ news) → w.grownBy w' v.ownBlock → (v'.ownBlock = v.ownBlock ∨ v'.ownBlock = some w.heap.size) → K (a.put o.dst v') w') :
    if Region.wanted o (yielded ops a.tmps) = true then Oper.wp Try.prog o a w K Q else E := by
  obtain ⟨i0, hi0, hz0, hz1, hz2⟩ := info_parts info_val
  exact step_append_any w hgd s x _ ho base _ i0 _ 4 56 Try.underlying41 hi0 hz0 hz1 hz2 rfl (by omega) v n xs hs hown D A m c news hx hr h1 (by simp only [maxLen]; omega) (by omega) hbase h

/-- the loop over those that follow -/
def Rows4 (l : List Raw) (w wr : World) (bat d at1 : Nat) (k : Nat) (q num : Int) (t : ByteArray) : Prop :=
  ∃ A c, Blk wr (w.heap.size + 1 + 1) 53 [.int .i64 (1 + q), .int .i64 num, .string t, .slice A k c] ∧ OwnList 53 4 (VCells (d + 1)) wr (w.heap.size + 3) (.slice A k c) (manyF (nextF l d) k at1).1 ∧
    Blk wr w.heap.size 53 [.int .i64 0, .int .i64 0, .string ⟨#[]⟩, .slice none 0 0] ∧ Blk wr bat 3 [.int .i64 (manyF (nextF l d) k at1).2] ∧ w.grownBy wr (some bat)

theorem Rows4.step {l : List Raw} {w wr w1 w2 : World} {bat d at1 k : Nat} {q num : Int} {t : ByteArray} {A3 A4 A5 : Option Addr} {c3 c4 c5 : Nat} {vk vn : Int} {vt : ByteArray} {va : List V} {vs1 : List (List Value)}
    (l1 : bat < w.heap.size) (cv : Blk wr (w.heap.size + 1 + 1) 53 [.int .i64 (1 + q), .int .i64 num, .string t, .slice A3 k c3]) (hown : OwnList 53 4 (VCells (d + 1)) wr (w.heap.size + 3) (.slice A3 k c3) (manyF (nextF l d) k at1).1)
    (cres : Blk wr w.heap.size 53 [.int .i64 0, .int .i64 0, .string ⟨#[]⟩, .slice none 0 0]) (hgr2 : w.grownBy wr (some bat))
    (hvv : (nextF l d (manyF (nextF l d) k at1).2).1 = V.mk vk vn vt va) (hv4 : VCells (d + 1) w1 (fun b => wr.drew.heap.size ≤ b) [.int .i64 vk, .int .i64 vn, .string vt, .slice A4 va.length c4] (V.mk vk vn vt va))
    (cat1 : Blk w1 bat 3 [.int .i64 (nextF l d (manyF (nextF l d) k at1).2).2]) (hg1 : wr.drew.grownBy w1 (some bat))
    (ho1 : w1.ownsRow (w.heap.size + 3) 53 4 (.slice A3 k c3) (manyF (nextF l d) k at1).1.length vs1.flatten)
    (ha1 : All2 (VCells (d + 1) w1 (fun b => w.heap.size + 3 ≤ b ∧ (Value.slice A3 k c3).ownBlock ≠ some b)) vs1 (manyF (nextF l d) k at1).1)
    (hown2 : w2.ownsRow (w.heap.size + 3) 53 4 (.slice A5 ((manyF (nextF l d) k at1).1.length + 1) c5) ((manyF (nextF l d) k at1).1.length + 1) (vs1.flatten ++ [.int .i64 vk, .int .i64 vn, .string vt, .slice A4 va.length c4]))
    (hg2 : (w1.alloc (.cells #[.int .i64 vk, .int .i64 vn, .string vt, .slice A4 va.length c4] 53)).grownBy w2 (Value.slice A3 k c3).ownBlock)
    (hat2 : (Value.slice A5 ((manyF (nextF l d) k at1).1.length + 1) c5).ownBlock = (Value.slice A3 k c3).ownBlock ∨ (Value.slice A5 ((manyF (nextF l d) k at1).1.length + 1) c5).ownBlock = some (w1.alloc (.cells #[.int .i64 vk, .int .i64 vn, .string vt, .slice A4 va.length c4] 53)).heap.size) :
    Rows4 l w (w2.setCell ⟨w.heap.size + 1 + 1, 3, none⟩ (.slice A5 ((manyF (nextF l d) k at1).1.length + 1) c5)) bat d at1 (k + 1) q num t := by
  have hml := manyF_len (nextF l d) k at1
  have hlv := cv.lt
  have hlt := ho1.lt
  have hs1 : wr.heap.size ≤ w1.heap.size := hg1.size
  have hown3 : ∀ b, (Value.slice A3 k c3).ownBlock = some b → b < wr.heap.size := fun b hb => (hown.lt b hb).2
  have hfar : ∀ i, (Value.slice A3 k c3).ownBlock = some i → w.heap.size + 3 ≤ i := fun i hi => (hlt i hi).1
  have hy : VCells (d + 1) w1 (fun b => w.heap.size + 3 ≤ b ∧ (Value.slice A3 k c3).ownBlock ≠ some b) [.int .i64 vk, .int .i64 vn, .string vt, .slice A4 va.length c4] (V.mk vk vn vt va) :=
    hv4.imp fun b hb _ => ⟨by have : wr.heap.size ≤ b := hb; omega, fun e => by have := hown3 b e; have : wr.heap.size ≤ b := hb; omega⟩
  have hpush := OwnList.push (VCells.stable (d + 1)) ha1 hy hg2 hat2 hown2
  have e1 : (manyF (nextF l d) (k + 1) at1).1 = (manyF (nextF l d) k at1).1 ++ [V.mk vk vn vt va] := by simp only [manyF]; rw [hvv]
  have e2 : (manyF (nextF l d) (k + 1) at1).2 = (nextF l d (manyF (nextF l d) k at1).2).2 := rfl
  rw [hml] at hpush ⊢
  have hset : Same (fun b => w.heap.size + 3 ≤ b) w2 (w2.setCell ⟨w.heap.size + 1 + 1, 3, none⟩ (.slice A5 (k + 1) c5)) := fun b hb _ => Below.heap_setCell _ _ _ _ (by show b ≠ w.heap.size + 1 + 1; omega)
  refine ⟨A5, c5, ?_, ?_, ?_, ?_, ?_⟩
  · have := ((cv.drew.grown hg1 (by simp; omega)).alloc (.cells #[.int .i64 vk, .int .i64 vn, .string vt, .slice A4 va.length c4] 53)).grown hg2 (fun e => by have := hfar _ e.symm; omega)
    exact this.put 3 _
  · rw [e1]
    exact hpush.keep (VCells.stable _) hset
  · exact (((cres.drew.grown hg1 (by simp; omega)).alloc _).grown hg2 (fun e => by have := hfar _ e.symm; omega)).far (by show w.heap.size ≠ w.heap.size + 1 + 1; omega) _
  · rw [e2]
    exact ((cat1.alloc _).grown hg2 (fun e => by have := hfar _ e.symm; omega)).far (by show bat ≠ w.heap.size + 1 + 1; omega) _
  · exact grownBy_setCell (grownBy_far (grownBy_alloc (grownBy_trans (grownBy_drew hgr2) hg1) _) hg2 (fun i hi => by have := hfar i hi; omega)) (.inr (by show w.heap.size ≤ w.heap.size + 1 + 1; omega)) _

/-- what stands behind the switch: the value's head, and how many follow -/
def Head (w wc : World) (bat at_ : Nat) (q : Int) (r : Raw) (s8 : Value) : Prop :=
  ∃ (m : Nat) (num : Int) (t : ByteArray), m ≤ 3 ∧ s8 = .int .i64 m ∧ headF (1 + q) r = (num, t, m) ∧ Fits64 num ∧ t.size ≤ 21 ∧ Blk wc (w.heap.size + 1 + 1) 53 [.int .i64 (1 + q), .int .i64 num, .string t, .slice none 0 0] ∧
    Blk wc w.heap.size 53 [.int .i64 0, .int .i64 0, .string ⟨#[]⟩, .slice none 0 0] ∧ Blk wc bat 3 [.int .i64 ((at_ : Int) + 1)] ∧ w.grownBy wc (some bat)
theorem cutText_size (t : ByteArray) : (cutText t).size ≤ 20 := by unfold cutText; simp; omega
theorem small_rest (n : Int) (m : Nat) (hm : 0 < m) : ∃ q : Nat, restI n m = q ∧ q < m := by
  have := restI_bd n m (by omega)
  exact ⟨(restI n m).toNat, by omega, by omega⟩
theorem Head.mk (w : World) (bat at_ : Nat) (q : Int) (r : Raw) (m : Nat) (num : Int) (t : ByteArray) (x : Value) (rc : List Value) (nq : Nat) (hb : Blk w bat 3 [x]) (hm : m ≤ 3) (hh : headF (1 + q) r = (num, t, m)) (hn : Fits64 num) (ht : t.size ≤ 21) :
    Head w (((((w.setCell ⟨bat, 0, none⟩ (.int .i64 ((at_ : Int) + 1))).alloc (.cells #[.int .i64 0, .int .i64 0, .string ⟨#[]⟩, .slice none 0 0] 53)).alloc (.cells rc.toArray 80)).alloc
      (.cells #[.int .i64 (1 + q), .int .i64 num, .string t, .slice none 0 0] 53))) bat at_ q r (.int .i64 m) := by
  have hs : (w.setCell ⟨bat, 0, none⟩ (.int .i64 ((at_ : Int) + 1))).heap.size = w.heap.size := by simp [World.setCell]
  have h1 := hb.put 0 (.int .i64 ((at_ : Int) + 1))
  refine ⟨m, num, t, hm, rfl, hh, hn, ht, ?_, ?_, ((h1.alloc _).alloc _).alloc _, grownBy_alloc (grownBy_alloc (grownBy_alloc (grownBy_setCell (World.grownBy.refl w _) (.inl rfl) _) _) _) _⟩
  · have := Blk.new (((w.setCell ⟨bat, 0, none⟩ (.int .i64 ((at_ : Int) + 1))).alloc (.cells #[.int .i64 0, .int .i64 0, .string ⟨#[]⟩, .slice none 0 0] 53)).alloc (.cells rc.toArray 80)) 53 [.int .i64 (1 + q), .int .i64 num, .string t, .slice none 0 0]
    simpa [hs] using this
  · have := Blk.new (w.setCell ⟨bat, 0, none⟩ (.int .i64 ((at_ : Int) + 1))) 53 [.int .i64 0, .int .i64 0, .string ⟨#[]⟩, .slice none 0 0]
    rw [hs] at this
    exact (this.alloc _).alloc _
theorem Head.alloc {w wc : World} {bat at_ : Nat} {q : Int} {r : Raw} {s8 : Value} (h : Head w wc bat at_ q r s8) (o : Obj) : Head w (wc.alloc o) bat at_ q r s8 := by
  obtain ⟨m, num, t, h1, h2, h3, h4, h5, h6, h7, h8, h9⟩ := h
  exact ⟨m, num, t, h1, h2, h3, h4, h5, h6.alloc _, h7.alloc _, h8.alloc _, grownBy_alloc h9 _⟩
theorem Head.drewN {w wc : World} {bat at_ : Nat} {q : Int} {r : Raw} {s8 : Value} (h : Head w wc bat at_ q r s8) (n : Nat) : Head w (wc.drewN n) bat at_ q r s8 := by
  obtain ⟨m, num, t, h1, h2, h3, h4, h5, h6, h7, h8, h9⟩ := h
  exact ⟨m, num, t, h1, h2, h3, h4, h5, h6, h7, h8, grownBy_drewN h9 n⟩

theorem nextF_some (l : List Raw) (d at_ : Nat) (h : at_ < l.length) (h60 : at_ < 60) (R : Raw) (hR : l[at_] = R) (q : Int) (hq : restI R.kind 8 = q) (num : Int) (t : ByteArray) (m : Nat) (hh : headF (1 + q) R = (num, t, m)) :
    nextF l (d + 1) at_ = (.mk (1 + q) num t (manyF (nextF l d) m (at_ + 1)).1, (manyF (nextF l d) m (at_ + 1)).2) := by
  have e : (l.take 60)[at_]? = some R := by
    rw [List.getElem?_take, if_pos h60, List.getElem?_eq_getElem h, hR]
  have hq' : restN R.kind 8 = q := hq
  unfold nextF
  rw [e]
  simp only [hq', hh]
theorem nextF_none (l : List Raw) (d at_ : Nat) (h : ¬ (at_ < l.length ∧ at_ < 60)) : nextF l (d + 1) at_ = (unitV, at_) := by
  have e : (l.take 60)[at_]? = none := by
    rw [List.getElem?_take]
    split
    · exact List.getElem?_eq_none (by omega)
    · rfl
  unfold nextF
  rw [e]
theorem next_end (l : List Raw) {d at_ bat m : Nat} {w W' : World} {A : Option Addr} {c : Nat} {R : Raw} {q num : Int} {t : ByteArray} (h : at_ < l.length) (h60 : at_ < 60) (hR : l[at_] = R) (hq : restI R.kind 8 = q) (hh : headF (1 + q) R = (num, t, m))
    (hnum : Fits64 num) (ht : t.size ≤ 21) (hm : m ≤ 3) (hq8 : 0 ≤ q ∧ q < 8) (hO : OwnList 53 4 (VCells (d + 1)) W' (w.heap.size + 3) (.slice A m c) (manyF (nextF l d) m (at_ + 1)).1) (hC : Blk W' bat 3 [.int .i64 (manyF (nextF l d) m (at_ + 1)).2]) (hG : w.grownBy W' (some bat)) :
    NextPost l (d + 1) at_ w (.returned (.agg #[.int .i64 (1 + q), .int .i64 num, .string t, .slice A m c])) W' ∧ Blk W' bat 3 [.int .i64 (nextF l (d + 1) at_).2] ∧ w.grownBy W' (some bat) := by
  unfold NextPost
  rw [nextF_some l d at_ h h60 R hR q hq num t m hh]
  have hlen := manyF_len (nextF l d) m (at_ + 1)
  refine ⟨⟨A, c, ?_, ?_⟩, hC, hG⟩
  · simp only [vagg, V.kind, V.num, V.text, V.args, hlen]
  · obtain ⟨vss, e1, h1, h2, hr, ha⟩ := hO.reads (VCells.stable _) (by omega)
    refine ⟨A, c, vss, rfl, ⟨by omega, by omega⟩, hnum, by omega, by omega, by omega, h2, ?_, ?_⟩
    · rw [hlen]
      exact hr.imp (by omega) fun b hb _ => by omega
    · exact ha.imp fun x y hxy => hxy.imp fun b hb _ => by omega
theorem next_unit (l : List Raw) {d at_ bat : Nat} {w W' : World} (hv : nextF l d at_ = (unitV, at_)) (hC : Blk W' bat 3 [.int .i64 (at_ : Int)]) (hG : w.grownBy W' (some bat)) :
    NextPost l d at_ w (.returned (.agg #[.int .i64 1, .int .i64 0, .string ⟨#[]⟩, .slice none 0 0])) W' ∧ Blk W' bat 3 [.int .i64 (nextF l d at_).2] ∧ w.grownBy W' (some bat) := by
  unfold NextPost
  rw [hv]
  exact ⟨⟨none, 0, rfl, none, 0, [], rfl, ⟨by omega, by omega⟩, ⟨by omega, by omega⟩, by decide, by decide, Nat.le_refl _, Nat.zero_le _, Reads.empty, All2.nil⟩, hC, hG⟩

set_option maxRecDepth 100000 in
set_option maxHeartbeats 4000000 in
theorem next_any (l : List Raw) (A : Option Addr) (n c bat bl bn : Nat) (hn : n = l.length) (hnc : n ≤ c) (hcm : c ≤ maxLen) : ∀ (d : Nat), ∀ (deep : Int), deep + d = 21 → 0 ≤ deep → ∀ (at_ : Nat) (w : World) (rss : List (List Value)), at_ ≤ 60 →
    Blk w bat 3 [.int .i64 at_] → Blk w bl 22 [.slice A n c] → Blk w bn 109 [.func (.func 44) #[] #[.pointer (some ⟨bat, 0, none⟩), .pointer (some ⟨bl, 0, none⟩), .pointer (some ⟨bn, 0, none⟩)]] →
    Reads w (fun b => b ≠ bat) 4 A n rss.flatten → All2 (RawCells w (fun b => b ≠ bat)) rss l → 
    Calls Try.prog 44 #[.int .i64 deep, .pointer (some ⟨bat, 0, none⟩), .pointer (some ⟨bl, 0, none⟩), .pointer (some ⟨bn, 0, none⟩)] w fun e w' =>
      NextPost l d at_ w e w' ∧ Blk w' bat 3 [.int .i64 (nextF l d at_).2] ∧ w.grownBy w' (some bat) := by
  intro d
  unfold maxLen at hcm
  have Hn := Lib.hid hn
  clear hn
  induction d with
  | zero =>
    intro deep hd h0 at_ w rss hat hbat hbl hbn hr ha
    have c1 : w.cell? ⟨bat, 0, none⟩ = some (.int .i64 at_) := hbat.cell 0
    have c2 : w.cell? ⟨bl, 0, none⟩ = some (.slice A n c) := hbl.cell 0
    have l1 := hbat.lt
    have l2 := hbl.lt
    have d3 : decide (20 < deep) = true := by simp; omega
    have hb60 : (at_ : Int) ≤ 60 := by omega
    go_enter Try.func44, Try.ntmps44
    go_wp2
    all_goals exact ret_blk rfl rfl (Blk.new w 53 [.int .i64 1, .int .i64 0, .string ⟨#[]⟩, .slice none 0 0]) Try.underlying53 (by kernel_rfl) rfl (next_unit l rfl (hbat.alloc _) (grownBy_alloc (World.grownBy.refl w _) _))
  | succ d ih =>
    intro deep hd h0 at_ w rss hat hbat hbl hbn hr ha
    have IH := Lib.hid ih
    have Hd := Lib.hid hd
    have hd1 : deep ≤ 20 := by omega
    clear ih hd
    have c1 : w.cell? ⟨bat, 0, none⟩ = some (.int .i64 at_) := hbat.cell 0
    have c2 : w.cell? ⟨bl, 0, none⟩ = some (.slice A n c) := hbl.cell 0
    have f1 : w.frozen? ⟨bat, 0, none⟩ = false := hbat.frozen 0
    by_cases hlt : at_ < n ∧ at_ < 60
    · obtain ⟨h1, h2⟩ := hlt
      obtain ⟨b, off, cs, rfl, hb, ⟨rfl, hk, hA1, hB1, hT1⟩, hcell⟩ := hr.elem RawCells.stable ha Hn.out (k := at_) (by have := Hn.out; omega)
      have g0 := hcell 0 _ rfl
      have g1 := hcell 1 _ rfl
      have g2 := hcell 2 _ rfl
      have g3 := hcell 3 _ rfl
      clear hcell
      generalize hR : l[at_]'(by have := Hn.out; omega) = R at hk hA1 hB1 hT1 g0 g1 g2 g3
      have HR := Lib.hid hR
      clear hR
      obtain ⟨rk, ra, rb, rt⟩ := R
      simp only [Nat.add_zero, ← Nat.add_assoc] at hk hA1 hB1 hT1 g0 g1 g2 g3
      have l1 := hbat.lt
      have l2 := hbl.lt
      have l3 := hbn.lt
      have l4 := lt_of_cell g0
      have d1 : decide (n ≤ at_) = false := by simp; omega
      have d2 : decide ((60 : Int) ≤ (at_ : Int)) = false := by simp; omega
      have d3 : decide (20 < deep) = false := by simp; omega
      have n1 : ¬ bl = bat := hbl.ne_ hbat (by decide)
      have n2 : ¬ bn = bat := hbn.ne_ hbat (by decide)
      obtain ⟨q, hq, hq8⟩ := small_rest rk 8 (by omega)
      obtain ⟨a2, ha2, ha2'⟩ := small_rest ra 2 (by omega)
      obtain ⟨a4, ha4, ha4'⟩ := small_rest ra 4 (by omega)
      obtain ⟨b3, hb3, hb3'⟩ := small_rest rb 3 (by omega)
      have Hq := Lib.hid hq
      have Ha2 := Lib.hid ha2
      have Ha4 := Lib.hid ha4
      have Hb3 := Lib.hid hb3
      have hct := cutText_size rt
      have hcat : ¬ 9223372036854775807 < 1 + (cutText rt).size := by omega
      clear hq ha2 ha4 hb3
      go_enter Try.func44, Try.ntmps44
      go_upto_block 0 with (go_at_call 11; refine (rest_q _ _ _ q hk (by omega) (by omega) Hq.out).mono ?_; rintro e w' ⟨rfl, rfl⟩)
      go_cut [8] (fun s8 wc => Head w wc bat at_ q ⟨rk, ra, rb, rt⟩ s8)
      case first =>
        obtain rfl | rfl | rfl | rfl | rfl | rfl | rfl | rfl : q = 0 ∨ q = 1 ∨ q = 2 ∨ q = 3 ∨ q = 4 ∨ q = 5 ∨ q = 6 ∨ q = 7 := by omega
        · go_wp2_with (fail)
          go_meet
          exact Head.mk w bat at_ 0 ⟨rk, ra, rb, rt⟩ 0 0 ⟨#[]⟩ _ _ 0 hbat (by omega) (by simp [headF]) (by unfold Fits64; omega) (by decide)
        · go_wp2_with (fail)
          go_meet
          exact Head.mk w bat at_ 1 ⟨rk, ra, rb, rt⟩ 0 ra ⟨#[]⟩ _ _ 0 hbat (by omega) (by simp [headF]) hA1 (by decide)
        · go_wp2_with (go_at_call 11; refine (rest_q _ _ _ a2 hA1 (by omega) (by omega) Ha2.out).mono ?_; rintro e w' ⟨rfl, rfl⟩)
          go_meet
          exact Head.mk w bat at_ 2 ⟨rk, ra, rb, rt⟩ 0 a2 ⟨#[]⟩ _ _ 0 hbat (by omega) (by have := Ha2.out; simp [headF]; exact this) (by unfold Fits64; omega) (by decide)
        · go_wp2_with (go_at_call 28; refine (text_any _ _ _ _ _ hT1).mono ?_; rintro e w' ⟨rfl, rfl⟩)
          go_meet
          exact (Head.mk w bat at_ 3 ⟨rk, ra, rb, rt⟩ 0 0 (cutText rt) _ _ 0 hbat (by omega) (by simp [headF]) (by unfold Fits64; omega) (by have := cutText_size rt; omega)).alloc _
        · go_wp2_with (fail)
          go_region_held3 (fun w' => w'.cell? ⟨w.heap.size + 1, 0, none⟩ = some (.int .i64 rk) ∧ w'.cell? ⟨w.heap.size + 1, 1, none⟩ = some (.int .i64 ra) ∧ w'.cell? ⟨w.heap.size + 1, 2, none⟩ = some (.int .i64 rb) ∧ w'.cell? ⟨w.heap.size + 1, 3, none⟩ = some (.string rt)) (simp [go_sem, World.cell?_alloc_past])
            (first
              | (go_at_call 11; refine (rest_q _ _ _ a4 hA1 (by omega) (by omega) Ha4.out).mono ?_; rintro e w' ⟨rfl, rfl⟩)
              | (go_at_call 28; refine (text_any _ _ _ _ _ hT1).mono ?_; rintro e w' ⟨rfl, rfl⟩))
          go_wp2_with (fail)
          go_meet
          exact ((Head.mk w bat at_ 4 ⟨rk, ra, rb, rt⟩ a4 0 (⟨#[77]⟩ ++ cutText rt) _ _ 0 hbat (by omega) (by have := Ha4.out; simp only [restI_eq] at this; simp [headF]; rw [show (restN ra 4) = (a4 : Int) from this]; rfl) (by unfold Fits64; omega) (by rw [ByteArray.size_append]; have : (⟨#[77]⟩ : ByteArray).size = 1 := rfl; omega)).alloc _).drewN 1
        · go_wp2_with (fail)
          go_meet
          exact Head.mk w bat at_ 5 ⟨rk, ra, rb, rt⟩ 0 ra ⟨#[]⟩ _ _ 0 hbat (by omega) (by simp [headF]) hA1 (by decide)
        · go_wp2_with (fail)
          go_region_held3 (fun w' => w'.cell? ⟨w.heap.size + 1, 0, none⟩ = some (.int .i64 rk) ∧ w'.cell? ⟨w.heap.size + 1, 1, none⟩ = some (.int .i64 ra) ∧ w'.cell? ⟨w.heap.size + 1, 2, none⟩ = some (.int .i64 rb) ∧ w'.cell? ⟨w.heap.size + 1, 3, none⟩ = some (.string rt)) (simp [go_sem, World.cell?_alloc_past])
            (first
              | (go_at_call 11; refine (rest_q _ _ _ b3 hB1 (by omega) (by omega) Hb3.out).mono ?_; rintro e w' ⟨rfl, rfl⟩)
              | (go_at_call 28; refine (text_any _ _ _ _ _ hT1).mono ?_; rintro e w' ⟨rfl, rfl⟩))
          go_wp2_with (fail)
          go_meet
          exact ((Head.mk w bat at_ 6 ⟨rk, ra, rb, rt⟩ b3 ra (cutText rt) _ _ 0 hbat (by omega) (by have := Hb3.out; simp only [restI_eq] at this; simp [headF]; rw [show (restN rb 3) = (b3 : Int) from this]; rfl) hA1 (by omega)).alloc _).drewN 1
        · go_wp2_with (go_at_call 11; refine (rest_q _ _ _ a2 hA1 (by omega) (by omega) Ha2.out).mono ?_; rintro e w' ⟨rfl, rfl⟩)
          go_meet
          exact Head.mk w bat at_ 7 ⟨rk, ra, rb, rt⟩ a2 0 ⟨#[]⟩ _ _ 0 hbat (by omega) (by have := Ha2.out; simp only [restI_eq] at this; simp [headF]; rw [show (restN ra 2) = (a2 : Int) from this]; rfl) (by unfold Fits64; omega) (by decide)
      case rest =>
        obtain ⟨m, num, t, hm3, rfl, hhead, hnum, ht21, bv, bres, bat', hgr⟩ := hcut
        have Hhead := Lib.hid hhead
        clear hhead
        go_wp2_with (fail)
        go_loopw [78] (fun i wr => ∃ k : Nat, k ≤ m ∧ i = .int .i64 k ∧ Rows4 l w wr bat d (at_ + 1) k q num t) (fun i _ => m - (intOf i).toNat)
        case atStart => exact ⟨0, Nat.zero_le _, rfl, none, 0, bv, OwnList.nil _ _ _ _, bres, by simpa [manyF] using bat', hgr⟩
        case round =>
          obtain ⟨k, hkm, rfl, A3, c3, cv, hown, cres, cat, hgr2⟩ := hrel
          have hat2 : (manyF (nextF l d) k (at_ + 1)).2 ≤ 60 := manyF_le (nextF_le l d) _ _ (by omega)
          by_cases hlt : k < m
          · have v3 := cv.cell 3
            have cbn := (hbn.grown hgr2 (by simpa using n2)).cell 0
            simp only [List.getElem?_cons_succ, List.getElem?_cons_zero] at v3 cbn
            have C := Lib.hid (fun (W : World) (hW : W.heap = wr.heap) => IH.out (deep + 1) (by have := Hd.out; omega) (by omega) _ W rss hat2 (cat.of_heap hW) ((hbl.grown hgr2 (by simpa using n1)).of_heap hW) ((hbn.grown hgr2 (by simpa using n2)).of_heap hW) ((hr.keep (Same.of_grown hgr2 (fun b hb _ => by simpa using hb))).keep (Same.of_heap hW)) (ha.imp fun _ _ h => h))
            have hbn4 := hbn
            clear hbat hbl hbn hr ha IH c1 c2 f1 g0 g1 g2 g3 HR Hhead Ha2 Ha4 Hb3 Hq bv bres bat'
            go_wp2_with (fail)
            have hw1 : IntKind.i64.wrap (deep + 1) = deep + 1 := IntWalk.i64_in _ (by omega)
            have cv4 := Lib.hid cv
            have cbn4 := Lib.hid (hbn4.grown hgr2 (by simpa using n2))
            have hsz := hgr2.size
            have hlv := cv.lt
            have hml := manyF_len (nextF l d) k (at_ + 1)
            have Hml := Lib.hid hml
            clear hml
            go_region_law
              (first | (rw [if_pos (by simp [Region.wanted])]; unfold Oper.wp; go_simp; go_at_call 44; refine (C.out wr.drew rfl).mono ?_; rintro e w1 ⟨⟨A4, c4, rfl, hv4⟩, cat1, hg1⟩; dsimp only; generalize hvv : (nextF l d (manyF (nextF l d) k (at_ + 1)).2).1 = vv at hv4 ⊢; have Hvv := Lib.hid hvv; clear hvv; obtain ⟨vk, vn, vt, va⟩ := vv; simp only [vagg, vcells, V.kind, V.num, V.text, V.args] at hv4 ⊢; have cv1 := cv4.out.drew.grown hg1 (by simp; omega); have cbn1 := cbn4.out.drew.grown hg1 (by simpa using n2); have k1 : w1.cell? ⟨w.heap.size + 1 + 1, 3, none⟩ = some (.slice A3 k c3) := cv1.cell 3; have k2 := cbn1.cell 0; have k1a : ∀ o, (w1.alloc o).cell? ⟨w.heap.size + 1 + 1, 3, none⟩ = some (.slice A3 k c3) := fun o => (cv1.alloc o).cell 3; have k2a := fun o => (cbn1.alloc o).cell 0; have hown1 : OwnList 53 4 (VCells (d + 1)) w1 (w.heap.size + 3) (.slice A3 k c3) (manyF (nextF l d) k (at_ + 1)).1 := (hown.keep (w' := wr.drew) (VCells.stable _) (Same.of_heap rfl)).keep (VCells.stable _) (Same.of_grown hg1 fun b hb _ => by simp; omega); have hs1 : wr.heap.size ≤ w1.heap.size := hg1.size; obtain ⟨vs1, ho1, ha1⟩ := hown1) | (refine step_app_val _ rfl (.tmp 81) (.tmp 86) (by rfl) (ho1.alloc _) rfl (Reads.new (D := Any) _ [.int .i64 vk, .int .i64 vn, .string vt, .slice A4 va.length c4] 4 1 _ trivial rfl) rfl (by simp [Value.oneCell']) (by have := Hml.out; omega) (by simp; omega) ?_; intro v2 w2 hown2 hg2 hat2; obtain ⟨A5, c5, rfl, hn5⟩ := own_form hown2; have cv2 := (cv1.alloc (.cells #[.int .i64 vk, .int .i64 vn, .string vt, .slice A4 va.length c4] 53)).grown hg2 (fun e => by have := (ho1.lt _ e.symm).1; omega); have cbn2 := (cbn1.alloc (.cells #[.int .i64 vk, .int .i64 vn, .string vt, .slice A4 va.length c4] 53)).grown hg2 (fun e => by have := (ho1.lt _ e.symm).1; omega); have k1c : w2.cell? ⟨w.heap.size + 1 + 1, 3, none⟩ = some (.slice A3 k c3) := cv2.cell 3; have k2c := cbn2.cell 0; have f1c := cv2.frozen 3))
            all_goals clear hw1
            all_goals go_wp2
            all_goals exact ⟨⟨k + 1, by omega, by go_num, Rows4.step l1 cv hown cres hgr2 Hvv.out hv4 cat1 hg1 ho1 ha1 hown2 hg2 hat2⟩, by simp [intOf]; omega⟩
          · obtain rfl : k = m := by omega
            have r0 := cres.cell 0
            have r1 := cres.cell 1
            have r2 := cres.cell 2
            have r3 := cres.cell 3
            have s0 := cres.frozen 0
            have s1 := cres.frozen 1
            have s2 := cres.frozen 2
            have s3 := cres.frozen 3
            have t0 := cv.cell 0
            have t1 := cv.cell 1
            have t2 := cv.cell 2
            have t3 := cv.cell 3
            simp only [List.getElem?_cons_succ, List.getElem?_cons_zero] at r0 r1 r2 r3 t0 t1 t2 t3
            clear hbat hbl hbn hr ha IH c1 c2 f1 g0 g1 g2 g3 Ha2 Ha4 Hb3 bv bres bat'
            go_wp2_with (fail)
            have hB := (((cres.put 0 (.int .i64 (1 + (q : Int)))).put 1 (.int .i64 num)).put 2 (.string t)).put 3 (.slice A3 k c3)
            have hS : Same (fun b => w.heap.size + 3 ≤ b) wr ((((wr.setCell ⟨w.heap.size, 0, none⟩ (.int .i64 (1 + (q : Int)))).setCell ⟨w.heap.size, 1, none⟩ (.int .i64 num)).setCell ⟨w.heap.size, 2, none⟩ (.string t)).setCell ⟨w.heap.size, 3, none⟩ (.slice A3 k c3)) := by
              intro b hb hl
              have hne : b ≠ w.heap.size := by omega
              rw [Below.heap_setCell _ _ _ _ hne, Below.heap_setCell _ _ _ _ hne, Below.heap_setCell _ _ _ _ hne, Below.heap_setCell _ _ _ _ hne]
            have hC := (((cat.far (p := ⟨w.heap.size, 0, none⟩) (by show bat ≠ w.heap.size; omega) (.int .i64 (1 + (q : Int)))).far (p := ⟨w.heap.size, 1, none⟩) (by show bat ≠ w.heap.size; omega) (.int .i64 num)).far (p := ⟨w.heap.size, 2, none⟩) (by show bat ≠ w.heap.size; omega) (.string t)).far (p := ⟨w.heap.size, 3, none⟩) (by show bat ≠ w.heap.size; omega) (.slice A3 k c3)
            have hG := grownBy_setCell (grownBy_setCell (grownBy_setCell (grownBy_setCell hgr2 (p := ⟨w.heap.size, 0, none⟩) (.inr (Nat.le_refl _)) (.int .i64 (1 + (q : Int)))) (p := ⟨w.heap.size, 1, none⟩) (.inr (Nat.le_refl _)) (.int .i64 num)) (p := ⟨w.heap.size, 2, none⟩) (.inr (Nat.le_refl _)) (.string t)) (p := ⟨w.heap.size, 3, none⟩) (.inr (Nat.le_refl _)) (.slice A3 k c3)
            have hO := hown.keep (VCells.stable _) hS
            generalize (((wr.setCell ⟨w.heap.size, 0, none⟩ (.int .i64 (1 + (q : Int)))).setCell ⟨w.heap.size, 1, none⟩ (.int .i64 num)).setCell ⟨w.heap.size, 2, none⟩ (.string t)).setCell ⟨w.heap.size, 3, none⟩ (.slice A3 k c3) = W' at hB hC hG hO ⊢
            refine ret_blk rfl rfl hB Try.underlying53 (by kernel_rfl) rfl ?_
            exact next_end l (by have := Hn.out; omega) h2 HR.out Hq.out Hhead.out hnum ht21 hm3 (by omega) hO hC hG
    · have l1 := hbat.lt
      have l2 := hbl.lt
      have Hlt := Lib.hid hlt
      clear hlt
      by_cases h1 : at_ < n
      · have h2 : 60 ≤ at_ := by have := Hlt.out; omega
        have d1 : decide (n ≤ at_) = false := by simp; omega
        have d2 : decide ((60 : Int) ≤ (at_ : Int)) = true := by simp; omega
        go_enter Try.func44, Try.ntmps44
        go_wp2
        exact ret_blk rfl rfl (Blk.new w 53 [.int .i64 1, .int .i64 0, .string ⟨#[]⟩, .slice none 0 0]) Try.underlying53 (by kernel_rfl) rfl (next_unit l (nextF_none l d at_ (by have := Hlt.out; have := Hn.out; omega)) (hbat.alloc _) (grownBy_alloc (World.grownBy.refl w _) _))
      · have d1 : decide (n ≤ at_) = true := by simp; omega
        go_enter Try.func44, Try.ntmps44
        go_wp2
        exact ret_blk rfl rfl (Blk.new w 53 [.int .i64 1, .int .i64 0, .string ⟨#[]⟩, .slice none 0 0]) Try.underlying53 (by kernel_rfl) rfl (next_unit l (nextF_none l d at_ (by have := Hlt.out; have := Hn.out; omega)) (hbat.alloc _) (grownBy_alloc (World.grownBy.refl w _) _))
end Go.Proofs.Yteojmmjanjilaaa
