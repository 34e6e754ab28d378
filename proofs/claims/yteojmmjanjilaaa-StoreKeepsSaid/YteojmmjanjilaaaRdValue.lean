/- Contract of (*reader).value: it follows decV. -/
import Derived.Test.YteojmmjanjilaaaPart11
set_option linter.unusedVariables false
namespace Go.Val
open Go.RowKit Go.Mem
theorem Rd.alloc {w : World} {R : Nat} {T : TypeId} {tl : List Value} {bs : List UInt8} {bad : Bool} (h : Rd w R T tl bs bad) (o : Obj) : Rd (w.alloc o) R T tl bs bad := h.keep (Same.alloc _ _ _)
theorem Rd.cells {w : World} {R : Nat} {T : TypeId} {tl : List Value} {bs : List UInt8} {bad : Bool} (h : Rd w R T tl bs bad) : (∀ i, w.cell? ⟨R, i + 2, none⟩ = tl[i]?) ∧ (∀ i, w.frozen? ⟨R, i, none⟩ = false) ∧ w.cell? ⟨R, 1, none⟩ = some (.bool bad) := by
  obtain ⟨A, c, h1, _⟩ := h
  exact ⟨fun i => by rw [h1.cell]; simp, fun i => h1.frozen i, h1.cell 1⟩
theorem Rd.putTl {w : World} {R : Nat} {T : TypeId} {x y : Value} {tl : List Value} {bs : List UInt8} {bad : Bool} (h : Rd w R T (x :: tl) bs bad) : Rd (w.setCell ⟨R, 2, none⟩ y) R T (y :: tl) bs bad := by
  obtain ⟨A, c, h1, h2, h3, h4⟩ := h
  exact ⟨A, c, h1.put 2 _, h2, h3, h4.keep fun b hb hl => Below.heap_setCell w _ _ b (by simp; omega)⟩
theorem Rd.drew {w : World} {R : Nat} {T : TypeId} {tl : List Value} {bs : List UInt8} {bad : Bool} (h : Rd w R T tl bs bad) : Rd w.drew R T tl bs bad := h
theorem bad_on {β γ : Type} {bad bad' : Bool} {bs : List UInt8} {f : List UInt8 → Option γ} {y : γ} (h : (okS bad bs).bind f = okS bad' y) (hb : bad = true) : bad' = true := by
  subst hb
  cases bad' with
  | true => rfl
  | false => simp [okS] at h
theorem good_on {γ : Type} {bad : Bool} {bs : List UInt8} {f : List UInt8 → Option γ} {y : γ} (h : (okS false bs).bind f = okS bad y) : f bs = if bad then none else some y := by
  simpa [okS] using h
theorem dec_chain {d : Nat} {bs bs1 bs2 bs3 bs4 : List UInt8} {bad1 bad2 bad3 bad4 : Bool} {x1 x2 : Int} {x3 : ByteArray} {l : List V} (h1 : (okS false bs).bind byteD = okS bad1 (x1, bs1)) (h2 : (okS bad1 bs1).bind intD = okS bad2 (x2, bs2)) (h3 : (okS bad2 bs2).bind textD = okS bad3 (x3, bs3))
    (h4 : (okS bad3 bs3).bind (listD (decV d)) = okS bad4 (l, bs4)) : (okS false bs).bind (decV (d + 1)) = okS bad4 (V.mk x1 x2 x3 l, bs4) := by
  have goal : decV (d + 1) bs = if bad4 then none else some (V.mk x1 x2 x3 l, bs4) := by
    have e1 := good_on h1
    cases bad1 with
    | true =>
      have b4 := bad_on (β := Nat) h4 (bad_on (β := Nat) h3 (bad_on (β := Nat) h2 rfl))
      subst b4
      cases bs with
      | nil => simp [decV]
      | cons b t => simp [byteD] at e1
    | false =>
      cases bs with
      | nil => simp [byteD] at e1
      | cons b t =>
        simp [byteD] at e1
        obtain ⟨rfl, rfl⟩ := e1
        have e2 := good_on h2
        cases bad2 with
        | true =>
          have b4 := bad_on (β := Nat) h4 (bad_on (β := Nat) h3 rfl)
          subst b4
          simp at e2
          simp [decV, e2]
        | false =>
          simp at e2
          have e3 := good_on h3
          cases bad3 with
          | true =>
            have b4 := bad_on (β := Nat) h4 rfl
            subst b4
            simp at e3
            simp [decV, e2, e3]
          | false =>
            simp at e3
            have e4 := good_on h4
            cases bad4 with
            | true =>
              simp at e4
              simp [decV, e2, e3, e4]
            | false =>
              simp at e4
              simp [decV, e2, e3, e4]
  simp only [okS, Bool.false_eq_true, if_false, Option.bind_some]
  exact goal
theorem same_set4 {D : Nat → Prop} (w : World) (g : Nat) (a b c e : Value) (h : ¬ D g) : Same D w ((((w.setCell ⟨g, 0, none⟩ a).setCell ⟨g, 1, none⟩ b).setCell ⟨g, 2, none⟩ c).setCell ⟨g, 3, none⟩ e) := by
  intro i hi _
  have hne : i ≠ g := fun e => h (e ▸ hi)
  rw [Below.heap_setCell _ _ _ i hne, Below.heap_setCell _ _ _ i hne, Below.heap_setCell _ _ _ i hne, Below.heap_setCell _ _ _ i hne]
theorem size_set4 (w : World) (g : Nat) (a b c e : Value) : ((((w.setCell ⟨g, 0, none⟩ a).setCell ⟨g, 1, none⟩ b).setCell ⟨g, 2, none⟩ c).setCell ⟨g, 3, none⟩ e).heap.size = w.heap.size := by simp [World.setCell]
theorem Blk.set4 {w : World} {g : Nat} {t : TypeId} {x y z u : Value} (h : Blk w g t [x, y, z, u]) (a b c e : Value) : Blk ((((w.setCell ⟨g, 0, none⟩ a).setCell ⟨g, 1, none⟩ b).setCell ⟨g, 2, none⟩ c).setCell ⟨g, 3, none⟩ e) g t [a, b, c, e] :=
  (((h.put 0 a).put 1 b).put 2 c).put 3 e
theorem grownBy_set4 {a w : World} {R g : Nat} (h : a.grownBy w (some R)) (hg : a.heap.size ≤ g) (x y z u : Value) : a.grownBy ((((w.setCell ⟨g, 0, none⟩ x).setCell ⟨g, 1, none⟩ y).setCell ⟨g, 2, none⟩ z).setCell ⟨g, 3, none⟩ u) (some R) := by
  have h1 := grownBy_setCell h (p := ⟨g, 0, none⟩) (.inr hg) x
  have h2 := grownBy_setCell h1 (p := ⟨g, 1, none⟩) (.inr hg) y
  have h3 := grownBy_setCell h2 (p := ⟨g, 2, none⟩) (.inr hg) z
  exact grownBy_setCell h3 (p := ⟨g, 3, none⟩) (.inr hg) u
theorem vcells_own {e : TypeId} {d : Nat} {w : World} {base : Nat} {A : Option Addr} {l : List V} {c : Nat} {k n : Int} {t : ByteArray} (h : OwnList e 4 (VCells d) w base (.slice A l.length c) l) (hk : 0 ≤ k ∧ k ≤ 255) (hn : Fits64 n) (ht : t.size ≤ 4611686018427387904) (hl : l.length ≤ 4194304) :
    VCells (d + 1) w (fun b => base ≤ b) [.int .i64 k, .int .i64 n, .string t, .slice A l.length c] (V.mk k n t l) := by
  obtain ⟨vss, _, h1, h2, hr, ha⟩ := h.reads (VCells.stable d) (by omega)
  exact ⟨A, c, vss, rfl, hk, hn, ht, hl, h1, h2, hr, ha⟩
end Go.Val
namespace Go.Proofs.Yteojmmjanjilaaa
open Go.RowKit Go.Mem Go.Val

/-- behind the reading of the four fields: the value lies in a block of its own -/
def RvMid (d : Nat) (w : World) (R : Nat) (T : TypeId) (dep : Int) (bs : List UInt8) (s3 : Value) (wc : World) : Prop :=
  ∃ (g : Nat) (k n : Int) (t : ByteArray) (l : List V) (A : Option Addr) (c : Nat) (bs4 : List UInt8) (bad4 : Bool) (dep4 : Int), s3 = .pointer (some ⟨g, 0, none⟩) ∧ w.heap.size < g ∧ Blk wc g 53 [.int .i64 k, .int .i64 n, .string t, .slice A l.length c] ∧
      Blk wc w.heap.size 53 [.int .i64 0, .int .i64 0, .string ⟨#[]⟩, .slice none 0 0] ∧ VCells (d + 1 + 1) wc (fun b => w.heap.size < b) [.int .i64 k, .int .i64 n, .string t, .slice A l.length c] (V.mk k n t l) ∧
      Rd wc R T [.int .i64 dep4] bs4 bad4 ∧ w.grownBy wc (some R) ∧ bs4.length ≤ bs.length ∧ Hid ((okS false bs).bind (decV (d + 1)) = okS bad4 (V.mk k n t l, bs4)) ∧ dep + 1 ≤ dep4 ∧ dep4 ≤ dep + 2 ∧ (bad4 = false → dep4 = dep + 1)
theorem mid_new {d : Nat} {w w4 : World} {R : Nat} {T : TypeId} {dep : Int} {bs : List UInt8} {base : Nat} {k n : Int} {t : ByteArray} {l : List V} {A : Option Addr} {c : Nat} {bs4 : List UInt8} {bad4 : Bool} {dep4 : Int} (ho : OwnList 53 4 (VCells (d + 1)) w4 base (.slice A l.length c) l) (hb : w.heap.size < base)
    (hk : 0 ≤ k ∧ k ≤ 255) (hn : Fits64 n) (ht : t.size ≤ 4611686018427387904) (hl : l.length ≤ 4194304) (hz : Blk w4 w.heap.size 53 [.int .i64 0, .int .i64 0, .string ⟨#[]⟩, .slice none 0 0]) (hrd : Rd w4 R T [.int .i64 dep4] bs4 bad4) (hG : w.grownBy w4 (some R)) (hle : bs4.length ≤ bs.length)
    (hd : (okS false bs).bind (decV (d + 1)) = okS bad4 (V.mk k n t l, bs4)) (h1 : dep + 1 ≤ dep4) (h2 : dep4 ≤ dep + 1 + 1) (h3 : bad4 = false → dep4 = dep + 1) :
    RvMid d w R T dep bs (.pointer (some ⟨w4.heap.size, 0, none⟩)) (w4.alloc (.cells #[.int .i64 k, .int .i64 n, .string t, .slice A l.length c] 53)) := by
  have hv := ((vcells_own ho hk hn ht hl).imp (D' := fun b => w.heap.size < b) fun b hb' _ => by omega).keep (Same.alloc _ w4 (.cells #[.int .i64 k, .int .i64 n, .string t, .slice A l.length c] 53))
  exact ⟨w4.heap.size, k, n, t, l, A, c, bs4, bad4, dep4, rfl, hz.lt, Blk.new w4 _ _, hz.alloc _, hv, hrd.alloc _, grownBy_alloc hG _, hle, hd, h1, by omega, h3⟩
theorem mid_set {d : Nat} {w w4 : World} {R : Nat} {T : TypeId} {dep : Int} {bs : List UInt8} {base g : Nat} {k n : Int} {t : ByteArray} {l : List V} {A : Option Addr} {c : Nat} {bs4 : List UInt8} {bad4 : Bool} {dep4 : Int} (hB : Blk w4 g 53 [.int .i64 0, .int .i64 0, .string ⟨#[]⟩, .slice none 0 0]) (ho : OwnList 53 4 (VCells (d + 1)) w4 base (.slice A l.length c) l) (hb : g < base) (hg : w.heap.size < g)
    (hk : 0 ≤ k ∧ k ≤ 255) (hn : Fits64 n) (ht : t.size ≤ 4611686018427387904) (hl : l.length ≤ 4194304) (hz : Blk w4 w.heap.size 53 [.int .i64 0, .int .i64 0, .string ⟨#[]⟩, .slice none 0 0]) (hR : R < w.heap.size) (hrd : Rd w4 R T [.int .i64 dep4] bs4 bad4) (hG : w.grownBy w4 (some R)) (hle : bs4.length ≤ bs.length)
    (hd : (okS false bs).bind (decV (d + 1)) = okS bad4 (V.mk k n t l, bs4)) (h1 : dep + 1 ≤ dep4) (h2 : dep4 ≤ dep + 1 + 1) (h3 : bad4 = false → dep4 = dep + 1) :
    RvMid d w R T dep bs (.pointer (some ⟨g, 0, none⟩)) ((((w4.setCell ⟨g, 0, none⟩ (.int .i64 k)).setCell ⟨g, 1, none⟩ (.int .i64 n)).setCell ⟨g, 2, none⟩ (.string t)).setCell ⟨g, 3, none⟩ (.slice A l.length c)) := by
  have hv := ((vcells_own ho hk hn ht hl).keep (same_set4 w4 g (.int .i64 k) (.int .i64 n) (.string t) (.slice A l.length c) (by omega))).imp (D' := fun b => w.heap.size < b) fun b hb' _ => by omega
  refine ⟨g, k, n, t, l, A, c, bs4, bad4, dep4, rfl, hg, Blk.set4 hB _ _ _ _, ?_, hv, hrd.keep (same_set4 w4 g _ _ _ _ (by omega)), grownBy_set4 hG (by omega) _ _ _ _, hle, hd, h1, by omega, h3⟩
  exact hz.same (same_set4 (D := fun b => b ≠ g) w4 g _ _ _ _ (by simp)) (by omega)

set_option maxRecDepth 100000 in
set_option maxHeartbeats 1000000 in
theorem rvalue_zero : RV 0 := by
    intro w R T dep bs hd h0 hlen h
    obtain ⟨hc, hf, hbad⟩ := h.cells
    have c2 : w.cell? ⟨R, 2, none⟩ = some (.int .i64 dep) := hc 0
    have f1 := hf 1
    have f2 := hf 2
    have l1 := h.lt
    obtain rfl : dep = 40 := by omega
    have hrd : Rd (((w.setCell ⟨R, 2, none⟩ (.int .i64 41)).setCell ⟨R, 1, none⟩ (.bool true)).alloc (.cells #[.int .i64 0, .int .i64 0, .string ⟨#[]⟩, .slice none 0 0] 53)) R T [.int .i64 41] bs true := (h.putTl.badden).alloc _
    have hgr : w.grownBy (((w.setCell ⟨R, 2, none⟩ (.int .i64 41)).setCell ⟨R, 1, none⟩ (.bool true)).alloc (.cells #[.int .i64 0, .int .i64 0, .string ⟨#[]⟩, .slice none 0 0] 53)) (some R) := by
      have g1 : w.grownBy (w.setCell ⟨R, 2, none⟩ (.int .i64 41)) (some R) := grownBy_setCell (World.grownBy.refl w _) (.inl rfl) _
      have g2 : w.grownBy ((w.setCell ⟨R, 2, none⟩ (.int .i64 41)).setCell ⟨R, 1, none⟩ (.bool true)) (some R) := grownBy_setCell g1 (.inl rfl) _
      exact grownBy_alloc g2 _
    have hsz : ((w.setCell ⟨R, 2, none⟩ (.int .i64 41)).setCell ⟨R, 1, none⟩ (.bool true)).heap.size = w.heap.size := by simp [World.setCell]
    have hB := Blk.new ((w.setCell ⟨R, 2, none⟩ (.int .i64 41)).setCell ⟨R, 1, none⟩ (.bool true)) 53 [.int .i64 0, .int .i64 0, .string ⟨#[]⟩, .slice none 0 0]
    rw [hsz] at hB
    clear hc hf
    go_enter Try.func92, Try.ntmps92
    go_wp2_with (fail)
    refine ret_blk rfl rfl hB Try.underlying53 (by kernel_rfl) rfl ?_
    exact ⟨.mk 0 0 ⟨#[]⟩ [], none, 0, bs, true, 41, rfl, ⟨none, 0, [], rfl, ⟨by omega, by omega⟩, ⟨by omega, by omega⟩, by decide, by decide, Nat.le_refl _, Nat.zero_le _, Reads.empty, All2.nil⟩, hrd, hgr, Nat.le_refl _, by unfold Hid; rfl, by omega, by omega, fun h => by cases h⟩

set_option maxRecDepth 100000 in
set_option maxHeartbeats 4000000 in
theorem rvalue_succ (d : Nat) (ih : RV d) : RV (d + 1) := by
    intro w R T dep bs hd h0 hlen h
    have hrv := Lib.hid ih
    clear ih
    obtain ⟨hc, hf, hbad⟩ := h.cells
    have c2 : w.cell? ⟨R, 2, none⟩ = some (.int .i64 dep) := hc 0
    have f1 := hf 1
    have f2 := hf 2
    have l1 := h.lt
    have d1 : decide (40 < dep + 1) = false := by simp; omega
    have hd40 : dep ≤ 40 := by omega
    have Hd := Lib.hid hd
    clear hc hf hd
    obtain ⟨W0, hW0⟩ : ∃ W0, W0 = (w.setCell ⟨R, 2, none⟩ (.int .i64 (dep + 1))).alloc (.cells #[.int .i64 0, .int .i64 0, .string ⟨#[]⟩, .slice none 0 0] 53) := ⟨_, rfl⟩
    have hrd0 : Rd W0 R T [.int .i64 (dep + 1)] bs false := by rw [hW0]; exact h.putTl.alloc _
    have hG0 : w.grownBy W0 (some R) := by rw [hW0]; exact grownBy_alloc (grownBy_setCell (World.grownBy.refl w _) (.inl rfl) _) _
    have hB0 : Blk W0 w.heap.size 53 [.int .i64 0, .int .i64 0, .string ⟨#[]⟩, .slice none 0 0] := by
      have := Blk.new (w.setCell ⟨R, 2, none⟩ (.int .i64 (dep + 1))) 53 [.int .i64 0, .int .i64 0, .string ⟨#[]⟩, .slice none 0 0]
      have hsz : (w.setCell ⟨R, 2, none⟩ (.int .i64 (dep + 1))).heap.size = w.heap.size := by simp [World.setCell]
      rw [hsz] at this
      rw [hW0]
      exact this
    have HW0 := Lib.hid hW0
    clear hW0
    go_enter Try.func92, Try.ntmps92
    go_upto_region 5 with (fail)
    rw [← HW0.out]
    clear HW0 h hbad c2 f1 f2
    go_cut [3] (fun s3 wc => RvMid d w R T dep bs s3 wc)
    case first =>
      have zz : ∀ W : World, Blk (W.alloc (.cells #[.int .i64 0, .int .i64 0, .string ⟨#[]⟩, .slice none 0 0] 53)) W.heap.size 53 [.int .i64 0, .int .i64 0, .string ⟨#[]⟩, .slice none 0 0] := fun W => Blk.new W _ _
      have ZZ := Lib.hid zz
      clear zz
      have lR : R < W0.heap.size := hrd0.lt
      have hzl := hB0.lt
      refine wp_region_any (by kernel_rfl) ?_
      change wpAny _ _ _ _ _ _ _ (World.drew _)
      repeat (first | (refine wpAny_take (i := 0) (v := .pointer (some ⟨R, 0, none⟩)) rfl ?_ ?_ ?_ (fun _ _ _ h => h) (Or.inl ⟨by rfl, ?_⟩) ?_; (· decide +kernel); (· decide +kernel); (· decide +kernel); (· (intro w; go_simp))) | (refine wpAny_take (i := 1) (v := .pointer (some ⟨R, 0, none⟩)) rfl ?_ ?_ ?_ (fun _ _ _ h => h) (Or.inl ⟨by rfl, ?_⟩) ?_; (· decide +kernel); (· decide +kernel); (· decide +kernel); (· (intro w; go_simp))) | (refine wpAny_take (i := 2) (v := .pointer (some ⟨R, 0, none⟩)) rfl ?_ ?_ ?_ (fun _ _ _ h => h) (Or.inl ⟨by rfl, ?_⟩) ?_; (· decide +kernel); (· decide +kernel); (· decide +kernel); (· (intro w; go_simp))) | (refine wpAny_take (i := 15) (v := .pointer (some ⟨R, 0, none⟩)) rfl ?_ ?_ ?_ (fun _ _ _ h => h) (Or.inl ⟨by rfl, ?_⟩) ?_; (· decide +kernel); (· decide +kernel); (· decide +kernel); (· (intro w; go_simp))) | (refine wpAny_take (i := 4) (v := .pointer (some ⟨R, 0, none⟩)) rfl ?_ ?_ ?_ (fun _ _ _ h => h) (Or.inl ⟨by rfl, ?_⟩) ?_; (· decide +kernel); (· decide +kernel); (· decide +kernel); (· (intro w; go_simp))) | (refine wpAny_take (i := 5) (v := .pointer (some ⟨R, 0, none⟩)) rfl ?_ ?_ ?_ (fun _ _ _ h => h) (Or.inl ⟨by rfl, ?_⟩) ?_; (· decide +kernel); (· decide +kernel); (· decide +kernel); (· (intro w; go_simp))) | (refine wpAny_take (i := 6) (v := .pointer (some ⟨R, 0, none⟩)) rfl ?_ ?_ ?_ (fun _ _ _ h => h) (Or.inl ⟨by rfl, ?_⟩) ?_; (· decide +kernel); (· decide +kernel); (· decide +kernel); (· (intro w; go_simp))) | (refine wpAny_take (i := 8) (v := .pointer (some ⟨R, 0, none⟩)) rfl ?_ ?_ ?_ (fun _ _ _ h => h) (Or.inl ⟨by rfl, ?_⟩) ?_; (· decide +kernel); (· decide +kernel); (· decide +kernel); (· (intro w; go_simp))) | (refine wpAny_take (i := 9) (v := .pointer (some ⟨R, 0, none⟩)) rfl ?_ ?_ ?_ (fun _ _ _ h => h) (Or.inl ⟨by rfl, ?_⟩) ?_; (· decide +kernel); (· decide +kernel); (· decide +kernel); (· (intro w; go_simp))) | (refine wpAny_take (i := 10) (v := .pointer (some ⟨R, 0, none⟩)) rfl ?_ ?_ ?_ (fun _ _ _ h => h) (Or.inl ⟨by rfl, ?_⟩) ?_; (· decide +kernel); (· decide +kernel); (· decide +kernel); (· (intro w; go_simp))) | (refine wpAny_take (i := 12) (v := .pointer (some ⟨R, 0, none⟩)) rfl ?_ ?_ ?_ (fun _ _ _ h => h) (Or.inl ⟨by rfl, ?_⟩) ?_; (· decide +kernel); (· decide +kernel); (· decide +kernel); (· (intro w; go_simp))) | (refine wpAny_take (i := 13) (v := .pointer (some ⟨R, 0, none⟩)) rfl ?_ ?_ ?_ (fun _ _ _ h => h) (Or.inl ⟨by rfl, ?_⟩) ?_; (· decide +kernel); (· decide +kernel); (· decide +kernel); (· (intro w; go_simp))) | (refine wpAny_take (i := 14) (v := .pointer (some ⟨R, 0, none⟩)) rfl ?_ ?_ ?_ (fun _ _ _ h => h) (Or.inl ⟨by rfl, ?_⟩) ?_; (· decide +kernel); (· decide +kernel); (· decide +kernel); (· (intro w; go_simp))) | (refine wpAny_take (i := 16) (v := .func (.func 92) #[.pointer (some ⟨R, 0, none⟩)] #[]) rfl ?_ ?_ ?_ (fun _ _ _ h => h) (Or.inl ⟨by rfl, ?_⟩) ?_; (· decide +kernel); (· decide +kernel); (· decide +kernel); (· (intro w; go_simp))))
      refine wpAny_ready (rs := [3, 19]) (by decide +kernel) (by simp) ?_
      refine AllReady.cons rfl (fun K hK => ?_) (AllReady.cons rfl (fun K hK => ?_) AllReady.nil)
      · go_simp
        refine (byte_any _ R T [.int .i64 (dep + 1)] bs false (by exact hrd0)).mono ?_
        rintro e w1 ⟨v1, x1, bs1, bad1, rfl, ⟨rfl, hx1, hx2⟩, hrd1, hg1, hl1, hh1⟩
        have K1 : W0.grownBy w1 (some R) := grownBy_trans (by exact (grownBy_drew (World.grownBy.refl W0 _))) hg1
        have q1 := K1.size
        have r1 := hrd1.lt
        try dsimp only
        refine hK _ _ ?_
        clear hK K
        repeat (first | (refine wpAny_take (i := 0) (v := .pointer (some ⟨R, 0, none⟩)) rfl ?_ ?_ ?_ (fun _ _ _ h => h) (Or.inl ⟨by rfl, ?_⟩) ?_; (· decide +kernel); (· decide +kernel); (· decide +kernel); (· (intro w; go_simp))) | (refine wpAny_take (i := 1) (v := .pointer (some ⟨R, 0, none⟩)) rfl ?_ ?_ ?_ (fun _ _ _ h => h) (Or.inl ⟨by rfl, ?_⟩) ?_; (· decide +kernel); (· decide +kernel); (· decide +kernel); (· (intro w; go_simp))) | (refine wpAny_take (i := 2) (v := .pointer (some ⟨R, 0, none⟩)) rfl ?_ ?_ ?_ (fun _ _ _ h => h) (Or.inl ⟨by rfl, ?_⟩) ?_; (· decide +kernel); (· decide +kernel); (· decide +kernel); (· (intro w; go_simp))) | (refine wpAny_take (i := 15) (v := .pointer (some ⟨R, 0, none⟩)) rfl ?_ ?_ ?_ (fun _ _ _ h => h) (Or.inl ⟨by rfl, ?_⟩) ?_; (· decide +kernel); (· decide +kernel); (· decide +kernel); (· (intro w; go_simp))) | (refine wpAny_take (i := 4) (v := .pointer (some ⟨R, 0, none⟩)) rfl ?_ ?_ ?_ (fun _ _ _ h => h) (Or.inl ⟨by rfl, ?_⟩) ?_; (· decide +kernel); (· decide +kernel); (· decide +kernel); (· (intro w; go_simp))) | (refine wpAny_take (i := 5) (v := .pointer (some ⟨R, 0, none⟩)) rfl ?_ ?_ ?_ (fun _ _ _ h => h) (Or.inl ⟨by rfl, ?_⟩) ?_; (· decide +kernel); (· decide +kernel); (· decide +kernel); (· (intro w; go_simp))) | (refine wpAny_take (i := 6) (v := .pointer (some ⟨R, 0, none⟩)) rfl ?_ ?_ ?_ (fun _ _ _ h => h) (Or.inl ⟨by rfl, ?_⟩) ?_; (· decide +kernel); (· decide +kernel); (· decide +kernel); (· (intro w; go_simp))) | (refine wpAny_take (i := 8) (v := .pointer (some ⟨R, 0, none⟩)) rfl ?_ ?_ ?_ (fun _ _ _ h => h) (Or.inl ⟨by rfl, ?_⟩) ?_; (· decide +kernel); (· decide +kernel); (· decide +kernel); (· (intro w; go_simp))) | (refine wpAny_take (i := 9) (v := .pointer (some ⟨R, 0, none⟩)) rfl ?_ ?_ ?_ (fun _ _ _ h => h) (Or.inl ⟨by rfl, ?_⟩) ?_; (· decide +kernel); (· decide +kernel); (· decide +kernel); (· (intro w; go_simp))) | (refine wpAny_take (i := 10) (v := .pointer (some ⟨R, 0, none⟩)) rfl ?_ ?_ ?_ (fun _ _ _ h => h) (Or.inl ⟨by rfl, ?_⟩) ?_; (· decide +kernel); (· decide +kernel); (· decide +kernel); (· (intro w; go_simp))) | (refine wpAny_take (i := 12) (v := .pointer (some ⟨R, 0, none⟩)) rfl ?_ ?_ ?_ (fun _ _ _ h => h) (Or.inl ⟨by rfl, ?_⟩) ?_; (· decide +kernel); (· decide +kernel); (· decide +kernel); (· (intro w; go_simp))) | (refine wpAny_take (i := 13) (v := .pointer (some ⟨R, 0, none⟩)) rfl ?_ ?_ ?_ (fun _ _ _ h => h) (Or.inl ⟨by rfl, ?_⟩) ?_; (· decide +kernel); (· decide +kernel); (· decide +kernel); (· (intro w; go_simp))) | (refine wpAny_take (i := 14) (v := .pointer (some ⟨R, 0, none⟩)) rfl ?_ ?_ ?_ (fun _ _ _ h => h) (Or.inl ⟨by rfl, ?_⟩) ?_; (· decide +kernel); (· decide +kernel); (· decide +kernel); (· (intro w; go_simp))) | (refine wpAny_take (i := 16) (v := .func (.func 92) #[.pointer (some ⟨R, 0, none⟩)] #[]) rfl ?_ ?_ ?_ (fun _ _ _ h => h) (Or.inl ⟨by rfl, ?_⟩) ?_; (· decide +kernel); (· decide +kernel); (· decide +kernel); (· (intro w; go_simp))))
        refine wpAny_ready (rs := [7, 19]) (by decide +kernel) (by simp) ?_
        refine AllReady.cons rfl (fun K hK => ?_) (AllReady.cons rfl (fun K hK => ?_) AllReady.nil)
        · go_simp
          refine (rint_any _ R T [.int .i64 (dep + 1)] bs1 bad1 (by exact hrd1)).mono ?_
          rintro e w2 ⟨v2, x2, bs2, bad2, rfl, ⟨rfl, hn2⟩, hrd2, hg2, hl2, hh2⟩
          have K2 : W0.grownBy w2 (some R) := grownBy_trans (by exact K1) hg2
          have q2 := K2.size
          have r2 := hrd2.lt
          try dsimp only
          refine hK _ _ ?_
          clear hK K
          repeat (first | (refine wpAny_take (i := 0) (v := .pointer (some ⟨R, 0, none⟩)) rfl ?_ ?_ ?_ (fun _ _ _ h => h) (Or.inl ⟨by rfl, ?_⟩) ?_; (· decide +kernel); (· decide +kernel); (· decide +kernel); (· (intro w; go_simp))) | (refine wpAny_take (i := 1) (v := .pointer (some ⟨R, 0, none⟩)) rfl ?_ ?_ ?_ (fun _ _ _ h => h) (Or.inl ⟨by rfl, ?_⟩) ?_; (· decide +kernel); (· decide +kernel); (· decide +kernel); (· (intro w; go_simp))) | (refine wpAny_take (i := 2) (v := .pointer (some ⟨R, 0, none⟩)) rfl ?_ ?_ ?_ (fun _ _ _ h => h) (Or.inl ⟨by rfl, ?_⟩) ?_; (· decide +kernel); (· decide +kernel); (· decide +kernel); (· (intro w; go_simp))) | (refine wpAny_take (i := 15) (v := .pointer (some ⟨R, 0, none⟩)) rfl ?_ ?_ ?_ (fun _ _ _ h => h) (Or.inl ⟨by rfl, ?_⟩) ?_; (· decide +kernel); (· decide +kernel); (· decide +kernel); (· (intro w; go_simp))) | (refine wpAny_take (i := 4) (v := .pointer (some ⟨R, 0, none⟩)) rfl ?_ ?_ ?_ (fun _ _ _ h => h) (Or.inl ⟨by rfl, ?_⟩) ?_; (· decide +kernel); (· decide +kernel); (· decide +kernel); (· (intro w; go_simp))) | (refine wpAny_take (i := 5) (v := .pointer (some ⟨R, 0, none⟩)) rfl ?_ ?_ ?_ (fun _ _ _ h => h) (Or.inl ⟨by rfl, ?_⟩) ?_; (· decide +kernel); (· decide +kernel); (· decide +kernel); (· (intro w; go_simp))) | (refine wpAny_take (i := 6) (v := .pointer (some ⟨R, 0, none⟩)) rfl ?_ ?_ ?_ (fun _ _ _ h => h) (Or.inl ⟨by rfl, ?_⟩) ?_; (· decide +kernel); (· decide +kernel); (· decide +kernel); (· (intro w; go_simp))) | (refine wpAny_take (i := 8) (v := .pointer (some ⟨R, 0, none⟩)) rfl ?_ ?_ ?_ (fun _ _ _ h => h) (Or.inl ⟨by rfl, ?_⟩) ?_; (· decide +kernel); (· decide +kernel); (· decide +kernel); (· (intro w; go_simp))) | (refine wpAny_take (i := 9) (v := .pointer (some ⟨R, 0, none⟩)) rfl ?_ ?_ ?_ (fun _ _ _ h => h) (Or.inl ⟨by rfl, ?_⟩) ?_; (· decide +kernel); (· decide +kernel); (· decide +kernel); (· (intro w; go_simp))) | (refine wpAny_take (i := 10) (v := .pointer (some ⟨R, 0, none⟩)) rfl ?_ ?_ ?_ (fun _ _ _ h => h) (Or.inl ⟨by rfl, ?_⟩) ?_; (· decide +kernel); (· decide +kernel); (· decide +kernel); (· (intro w; go_simp))) | (refine wpAny_take (i := 12) (v := .pointer (some ⟨R, 0, none⟩)) rfl ?_ ?_ ?_ (fun _ _ _ h => h) (Or.inl ⟨by rfl, ?_⟩) ?_; (· decide +kernel); (· decide +kernel); (· decide +kernel); (· (intro w; go_simp))) | (refine wpAny_take (i := 13) (v := .pointer (some ⟨R, 0, none⟩)) rfl ?_ ?_ ?_ (fun _ _ _ h => h) (Or.inl ⟨by rfl, ?_⟩) ?_; (· decide +kernel); (· decide +kernel); (· decide +kernel); (· (intro w; go_simp))) | (refine wpAny_take (i := 14) (v := .pointer (some ⟨R, 0, none⟩)) rfl ?_ ?_ ?_ (fun _ _ _ h => h) (Or.inl ⟨by rfl, ?_⟩) ?_; (· decide +kernel); (· decide +kernel); (· decide +kernel); (· (intro w; go_simp))) | (refine wpAny_take (i := 16) (v := .func (.func 92) #[.pointer (some ⟨R, 0, none⟩)] #[]) rfl ?_ ?_ ?_ (fun _ _ _ h => h) (Or.inl ⟨by rfl, ?_⟩) ?_; (· decide +kernel); (· decide +kernel); (· decide +kernel); (· (intro w; go_simp))))
          refine wpAny_ready (rs := [11, 19]) (by decide +kernel) (by simp) ?_
          refine AllReady.cons rfl (fun K hK => ?_) (AllReady.cons rfl (fun K hK => ?_) AllReady.nil)
          · go_simp
            refine (rtext_any _ R T [.int .i64 (dep + 1)] bs2 bad2 (by exact hrd2)).mono ?_
            rintro e w3 ⟨v3, x3, bs3, bad3, rfl, ⟨rfl, ht3⟩, hrd3, hg3, hl3, hh3⟩
            have K3 : W0.grownBy w3 (some R) := grownBy_trans (by exact K2) hg3
            have q3 := K3.size
            have r3 := hrd3.lt
            try dsimp only
            refine hK _ _ ?_
            clear hK K
            repeat (first | (refine wpAny_take (i := 0) (v := .pointer (some ⟨R, 0, none⟩)) rfl ?_ ?_ ?_ (fun _ _ _ h => h) (Or.inl ⟨by rfl, ?_⟩) ?_; (· decide +kernel); (· decide +kernel); (· decide +kernel); (· (intro w; go_simp))) | (refine wpAny_take (i := 1) (v := .pointer (some ⟨R, 0, none⟩)) rfl ?_ ?_ ?_ (fun _ _ _ h => h) (Or.inl ⟨by rfl, ?_⟩) ?_; (· decide +kernel); (· decide +kernel); (· decide +kernel); (· (intro w; go_simp))) | (refine wpAny_take (i := 2) (v := .pointer (some ⟨R, 0, none⟩)) rfl ?_ ?_ ?_ (fun _ _ _ h => h) (Or.inl ⟨by rfl, ?_⟩) ?_; (· decide +kernel); (· decide +kernel); (· decide +kernel); (· (intro w; go_simp))) | (refine wpAny_take (i := 15) (v := .pointer (some ⟨R, 0, none⟩)) rfl ?_ ?_ ?_ (fun _ _ _ h => h) (Or.inl ⟨by rfl, ?_⟩) ?_; (· decide +kernel); (· decide +kernel); (· decide +kernel); (· (intro w; go_simp))) | (refine wpAny_take (i := 4) (v := .pointer (some ⟨R, 0, none⟩)) rfl ?_ ?_ ?_ (fun _ _ _ h => h) (Or.inl ⟨by rfl, ?_⟩) ?_; (· decide +kernel); (· decide +kernel); (· decide +kernel); (· (intro w; go_simp))) | (refine wpAny_take (i := 5) (v := .pointer (some ⟨R, 0, none⟩)) rfl ?_ ?_ ?_ (fun _ _ _ h => h) (Or.inl ⟨by rfl, ?_⟩) ?_; (· decide +kernel); (· decide +kernel); (· decide +kernel); (· (intro w; go_simp))) | (refine wpAny_take (i := 6) (v := .pointer (some ⟨R, 0, none⟩)) rfl ?_ ?_ ?_ (fun _ _ _ h => h) (Or.inl ⟨by rfl, ?_⟩) ?_; (· decide +kernel); (· decide +kernel); (· decide +kernel); (· (intro w; go_simp))) | (refine wpAny_take (i := 8) (v := .pointer (some ⟨R, 0, none⟩)) rfl ?_ ?_ ?_ (fun _ _ _ h => h) (Or.inl ⟨by rfl, ?_⟩) ?_; (· decide +kernel); (· decide +kernel); (· decide +kernel); (· (intro w; go_simp))) | (refine wpAny_take (i := 9) (v := .pointer (some ⟨R, 0, none⟩)) rfl ?_ ?_ ?_ (fun _ _ _ h => h) (Or.inl ⟨by rfl, ?_⟩) ?_; (· decide +kernel); (· decide +kernel); (· decide +kernel); (· (intro w; go_simp))) | (refine wpAny_take (i := 10) (v := .pointer (some ⟨R, 0, none⟩)) rfl ?_ ?_ ?_ (fun _ _ _ h => h) (Or.inl ⟨by rfl, ?_⟩) ?_; (· decide +kernel); (· decide +kernel); (· decide +kernel); (· (intro w; go_simp))) | (refine wpAny_take (i := 12) (v := .pointer (some ⟨R, 0, none⟩)) rfl ?_ ?_ ?_ (fun _ _ _ h => h) (Or.inl ⟨by rfl, ?_⟩) ?_; (· decide +kernel); (· decide +kernel); (· decide +kernel); (· (intro w; go_simp))) | (refine wpAny_take (i := 13) (v := .pointer (some ⟨R, 0, none⟩)) rfl ?_ ?_ ?_ (fun _ _ _ h => h) (Or.inl ⟨by rfl, ?_⟩) ?_; (· decide +kernel); (· decide +kernel); (· decide +kernel); (· (intro w; go_simp))) | (refine wpAny_take (i := 14) (v := .pointer (some ⟨R, 0, none⟩)) rfl ?_ ?_ ?_ (fun _ _ _ h => h) (Or.inl ⟨by rfl, ?_⟩) ?_; (· decide +kernel); (· decide +kernel); (· decide +kernel); (· (intro w; go_simp))) | (refine wpAny_take (i := 16) (v := .func (.func 92) #[.pointer (some ⟨R, 0, none⟩)] #[]) rfl ?_ ?_ ?_ (fun _ _ _ h => h) (Or.inl ⟨by rfl, ?_⟩) ?_; (· decide +kernel); (· decide +kernel); (· decide +kernel); (· (intro w; go_simp))))
            refine wpAny_ready (rs := [17, 19]) (by decide +kernel) (by simp) ?_
            refine AllReady.cons rfl (fun K hK => ?_) (AllReady.cons rfl (fun K hK => ?_) AllReady.nil)
            · go_simp
              refine (some_any d hrv.out _ R T (dep + 1) bs3 bad3 (by have := Hd.out; omega) (by omega) (by omega) (by exact hrd3)).mono ?_
              rintro e w4 ⟨l4, A4, c4, bs4, bad4, dep4, rfl, ho4, hll4, hrd4, hg4, hl4, hh4, hdp1, hdp2, hdp3⟩
              have K4 : W0.grownBy w4 (some R) := grownBy_trans (by exact K3) hg4
              have q4 := K4.size
              have r4 := hrd4.lt
              try dsimp only
              refine hK _ _ ?_
              clear hK K
              repeat (first | (refine wpAny_take (i := 18) (v := .agg #[.int .i64 x1, .int .i64 x2, .string x3, .slice A4 l4.length c4]) rfl ?_ ?_ ?_ (fun _ _ _ h => h) (Or.inl ⟨by rfl, ?_⟩) ?_; (· decide +kernel); (· decide +kernel); (· decide +kernel); (· (intro w; go_simp))))
              refine wpAny_ready (rs := [19]) (by decide +kernel) (by simp) ?_
              refine AllReady.cons rfl (fun K hK => ?_) AllReady.nil
              go_simp
              refine hK _ _ ?_
              clear hK K
              refine wpAny_ready (rs := [20]) (by decide +kernel) (by simp) ?_
              refine AllReady.cons rfl (fun K hK => ?_) AllReady.nil
              go_simp
              refine hK _ _ ?_
              clear hK K
              refine wpAny_done (by decide +kernel) ?_ _
              go_wp2_with (fail)
              go_meet
              have hz4 := hB0.grown K4 (by simp; omega)
              have hG4 := grownBy_trans hG0 K4
              have hdec := dec_chain hh1.out hh2.out hh3.out hh4.out
              exact mid_new ho4 (by first | omega | (simp; omega)) ⟨hx1, hx2⟩ hn2 (by omega) hll4 hz4 hrd4 hG4 (by omega) hdec hdp1 hdp2 hdp3
            · go_simp
              refine hK _ _ ?_
              clear hK K
              repeat (first | (refine wpAny_take (i := 0) (v := .pointer (some ⟨R, 0, none⟩)) rfl ?_ ?_ ?_ (fun _ _ _ h => h) (Or.inl ⟨by rfl, ?_⟩) ?_; (· decide +kernel); (· decide +kernel); (· decide +kernel); (· (intro w; go_simp))) | (refine wpAny_take (i := 1) (v := .pointer (some ⟨R, 0, none⟩)) rfl ?_ ?_ ?_ (fun _ _ _ h => h) (Or.inl ⟨by rfl, ?_⟩) ?_; (· decide +kernel); (· decide +kernel); (· decide +kernel); (· (intro w; go_simp))) | (refine wpAny_take (i := 2) (v := .pointer (some ⟨R, 0, none⟩)) rfl ?_ ?_ ?_ (fun _ _ _ h => h) (Or.inl ⟨by rfl, ?_⟩) ?_; (· decide +kernel); (· decide +kernel); (· decide +kernel); (· (intro w; go_simp))) | (refine wpAny_take (i := 15) (v := .pointer (some ⟨R, 0, none⟩)) rfl ?_ ?_ ?_ (fun _ _ _ h => h) (Or.inl ⟨by rfl, ?_⟩) ?_; (· decide +kernel); (· decide +kernel); (· decide +kernel); (· (intro w; go_simp))) | (refine wpAny_take (i := 4) (v := .pointer (some ⟨R, 0, none⟩)) rfl ?_ ?_ ?_ (fun _ _ _ h => h) (Or.inl ⟨by rfl, ?_⟩) ?_; (· decide +kernel); (· decide +kernel); (· decide +kernel); (· (intro w; go_simp))) | (refine wpAny_take (i := 5) (v := .pointer (some ⟨R, 0, none⟩)) rfl ?_ ?_ ?_ (fun _ _ _ h => h) (Or.inl ⟨by rfl, ?_⟩) ?_; (· decide +kernel); (· decide +kernel); (· decide +kernel); (· (intro w; go_simp))) | (refine wpAny_take (i := 6) (v := .pointer (some ⟨R, 0, none⟩)) rfl ?_ ?_ ?_ (fun _ _ _ h => h) (Or.inl ⟨by rfl, ?_⟩) ?_; (· decide +kernel); (· decide +kernel); (· decide +kernel); (· (intro w; go_simp))) | (refine wpAny_take (i := 8) (v := .pointer (some ⟨R, 0, none⟩)) rfl ?_ ?_ ?_ (fun _ _ _ h => h) (Or.inl ⟨by rfl, ?_⟩) ?_; (· decide +kernel); (· decide +kernel); (· decide +kernel); (· (intro w; go_simp))) | (refine wpAny_take (i := 9) (v := .pointer (some ⟨R, 0, none⟩)) rfl ?_ ?_ ?_ (fun _ _ _ h => h) (Or.inl ⟨by rfl, ?_⟩) ?_; (· decide +kernel); (· decide +kernel); (· decide +kernel); (· (intro w; go_simp))) | (refine wpAny_take (i := 10) (v := .pointer (some ⟨R, 0, none⟩)) rfl ?_ ?_ ?_ (fun _ _ _ h => h) (Or.inl ⟨by rfl, ?_⟩) ?_; (· decide +kernel); (· decide +kernel); (· decide +kernel); (· (intro w; go_simp))) | (refine wpAny_take (i := 12) (v := .pointer (some ⟨R, 0, none⟩)) rfl ?_ ?_ ?_ (fun _ _ _ h => h) (Or.inl ⟨by rfl, ?_⟩) ?_; (· decide +kernel); (· decide +kernel); (· decide +kernel); (· (intro w; go_simp))) | (refine wpAny_take (i := 13) (v := .pointer (some ⟨R, 0, none⟩)) rfl ?_ ?_ ?_ (fun _ _ _ h => h) (Or.inl ⟨by rfl, ?_⟩) ?_; (· decide +kernel); (· decide +kernel); (· decide +kernel); (· (intro w; go_simp))) | (refine wpAny_take (i := 14) (v := .pointer (some ⟨R, 0, none⟩)) rfl ?_ ?_ ?_ (fun _ _ _ h => h) (Or.inl ⟨by rfl, ?_⟩) ?_; (· decide +kernel); (· decide +kernel); (· decide +kernel); (· (intro w; go_simp))) | (refine wpAny_take (i := 16) (v := .func (.func 92) #[.pointer (some ⟨R, 0, none⟩)] #[]) rfl ?_ ?_ ?_ (fun _ _ _ h => h) (Or.inl ⟨by rfl, ?_⟩) ?_; (· decide +kernel); (· decide +kernel); (· decide +kernel); (· (intro w; go_simp))))
              refine wpAny_ready (rs := [17]) (by decide +kernel) (by simp) ?_
              refine AllReady.cons rfl (fun K hK => ?_) AllReady.nil
              go_simp
              refine (some_any d hrv.out _ R T (dep + 1) bs3 bad3 (by have := Hd.out; omega) (by omega) (by omega) (by exact hrd3.alloc _)).mono ?_
              rintro e w4 ⟨l4, A4, c4, bs4, bad4, dep4, rfl, ho4, hll4, hrd4, hg4, hl4, hh4, hdp1, hdp2, hdp3⟩
              have K4 : W0.grownBy w4 (some R) := grownBy_trans (by exact (grownBy_alloc K3 _)) hg4
              have q4 := K4.size
              have r4 := hrd4.lt
              have hB4 : Blk w4 w3.heap.size 53 [.int .i64 0, .int .i64 0, .string ⟨#[]⟩, .slice none 0 0] := Blk.grown (by exact ZZ.out w3) hg4 (by simp; omega)
              have k0 := hB4.cell 0
              have j0 := hB4.frozen 0
              have k1 := hB4.cell 1
              have j1 := hB4.frozen 1
              have k2 := hB4.cell 2
              have j2 := hB4.frozen 2
              have k3 := hB4.cell 3
              have j3 := hB4.frozen 3
              have jl := hB4.lt
              simp only [List.getElem?_cons_succ, List.getElem?_cons_zero] at k0 k1 k2 k3
              try dsimp only
              refine hK _ _ ?_
              clear hK K
              repeat (first | (refine wpAny_take (i := 18) (v := .agg #[.int .i64 x1, .int .i64 x2, .string x3, .slice A4 l4.length c4]) rfl ?_ ?_ ?_ (fun _ _ _ h => h) (Or.inl ⟨by rfl, ?_⟩) ?_; (· decide +kernel); (· decide +kernel); (· decide +kernel); (· (intro w; go_simp))))
              refine wpAny_ready (rs := [20]) (by decide +kernel) (by simp) ?_
              refine AllReady.cons rfl (fun K hK => ?_) AllReady.nil
              go_simp
              refine hK _ _ ?_
              clear hK K
              refine wpAny_done (by decide +kernel) ?_ _
              go_wp2_with (fail)
              go_meet
              have hz4 := hB0.grown K4 (by simp; omega)
              have hG4 := grownBy_trans hG0 K4
              have hdec := dec_chain hh1.out hh2.out hh3.out hh4.out
              exact mid_set hB4 ho4 (by simp) (by omega) ⟨hx1, hx2⟩ hn2 (by omega) hll4 hz4 l1 hrd4 hG4 (by omega) hdec hdp1 hdp2 hdp3
          · go_simp
            refine hK _ _ ?_
            clear hK K
            repeat (first | (refine wpAny_take (i := 0) (v := .pointer (some ⟨R, 0, none⟩)) rfl ?_ ?_ ?_ (fun _ _ _ h => h) (Or.inl ⟨by rfl, ?_⟩) ?_; (· decide +kernel); (· decide +kernel); (· decide +kernel); (· (intro w; go_simp))) | (refine wpAny_take (i := 1) (v := .pointer (some ⟨R, 0, none⟩)) rfl ?_ ?_ ?_ (fun _ _ _ h => h) (Or.inl ⟨by rfl, ?_⟩) ?_; (· decide +kernel); (· decide +kernel); (· decide +kernel); (· (intro w; go_simp))) | (refine wpAny_take (i := 2) (v := .pointer (some ⟨R, 0, none⟩)) rfl ?_ ?_ ?_ (fun _ _ _ h => h) (Or.inl ⟨by rfl, ?_⟩) ?_; (· decide +kernel); (· decide +kernel); (· decide +kernel); (· (intro w; go_simp))) | (refine wpAny_take (i := 15) (v := .pointer (some ⟨R, 0, none⟩)) rfl ?_ ?_ ?_ (fun _ _ _ h => h) (Or.inl ⟨by rfl, ?_⟩) ?_; (· decide +kernel); (· decide +kernel); (· decide +kernel); (· (intro w; go_simp))) | (refine wpAny_take (i := 4) (v := .pointer (some ⟨R, 0, none⟩)) rfl ?_ ?_ ?_ (fun _ _ _ h => h) (Or.inl ⟨by rfl, ?_⟩) ?_; (· decide +kernel); (· decide +kernel); (· decide +kernel); (· (intro w; go_simp))) | (refine wpAny_take (i := 5) (v := .pointer (some ⟨R, 0, none⟩)) rfl ?_ ?_ ?_ (fun _ _ _ h => h) (Or.inl ⟨by rfl, ?_⟩) ?_; (· decide +kernel); (· decide +kernel); (· decide +kernel); (· (intro w; go_simp))) | (refine wpAny_take (i := 6) (v := .pointer (some ⟨R, 0, none⟩)) rfl ?_ ?_ ?_ (fun _ _ _ h => h) (Or.inl ⟨by rfl, ?_⟩) ?_; (· decide +kernel); (· decide +kernel); (· decide +kernel); (· (intro w; go_simp))) | (refine wpAny_take (i := 8) (v := .pointer (some ⟨R, 0, none⟩)) rfl ?_ ?_ ?_ (fun _ _ _ h => h) (Or.inl ⟨by rfl, ?_⟩) ?_; (· decide +kernel); (· decide +kernel); (· decide +kernel); (· (intro w; go_simp))) | (refine wpAny_take (i := 9) (v := .pointer (some ⟨R, 0, none⟩)) rfl ?_ ?_ ?_ (fun _ _ _ h => h) (Or.inl ⟨by rfl, ?_⟩) ?_; (· decide +kernel); (· decide +kernel); (· decide +kernel); (· (intro w; go_simp))) | (refine wpAny_take (i := 10) (v := .pointer (some ⟨R, 0, none⟩)) rfl ?_ ?_ ?_ (fun _ _ _ h => h) (Or.inl ⟨by rfl, ?_⟩) ?_; (· decide +kernel); (· decide +kernel); (· decide +kernel); (· (intro w; go_simp))) | (refine wpAny_take (i := 12) (v := .pointer (some ⟨R, 0, none⟩)) rfl ?_ ?_ ?_ (fun _ _ _ h => h) (Or.inl ⟨by rfl, ?_⟩) ?_; (· decide +kernel); (· decide +kernel); (· decide +kernel); (· (intro w; go_simp))) | (refine wpAny_take (i := 13) (v := .pointer (some ⟨R, 0, none⟩)) rfl ?_ ?_ ?_ (fun _ _ _ h => h) (Or.inl ⟨by rfl, ?_⟩) ?_; (· decide +kernel); (· decide +kernel); (· decide +kernel); (· (intro w; go_simp))) | (refine wpAny_take (i := 14) (v := .pointer (some ⟨R, 0, none⟩)) rfl ?_ ?_ ?_ (fun _ _ _ h => h) (Or.inl ⟨by rfl, ?_⟩) ?_; (· decide +kernel); (· decide +kernel); (· decide +kernel); (· (intro w; go_simp))) | (refine wpAny_take (i := 16) (v := .func (.func 92) #[.pointer (some ⟨R, 0, none⟩)] #[]) rfl ?_ ?_ ?_ (fun _ _ _ h => h) (Or.inl ⟨by rfl, ?_⟩) ?_; (· decide +kernel); (· decide +kernel); (· decide +kernel); (· (intro w; go_simp))))
            refine wpAny_ready (rs := [11]) (by decide +kernel) (by simp) ?_
            refine AllReady.cons rfl (fun K hK => ?_) AllReady.nil
            go_simp
            refine (rtext_any _ R T [.int .i64 (dep + 1)] bs2 bad2 (by exact hrd2.alloc _)).mono ?_
            rintro e w3 ⟨v3, x3, bs3, bad3, rfl, ⟨rfl, ht3⟩, hrd3, hg3, hl3, hh3⟩
            have K3 : W0.grownBy w3 (some R) := grownBy_trans (by exact (grownBy_alloc K2 _)) hg3
            have q3 := K3.size
            have r3 := hrd3.lt
            have hB3 : Blk w3 w2.heap.size 53 [.int .i64 0, .int .i64 0, .string ⟨#[]⟩, .slice none 0 0] := Blk.grown (by exact ZZ.out w2) hg3 (by simp; omega)
            try dsimp only
            refine hK _ _ ?_
            clear hK K
            repeat (first | (refine wpAny_take (i := 0) (v := .pointer (some ⟨R, 0, none⟩)) rfl ?_ ?_ ?_ (fun _ _ _ h => h) (Or.inl ⟨by rfl, ?_⟩) ?_; (· decide +kernel); (· decide +kernel); (· decide +kernel); (· (intro w; go_simp))) | (refine wpAny_take (i := 1) (v := .pointer (some ⟨R, 0, none⟩)) rfl ?_ ?_ ?_ (fun _ _ _ h => h) (Or.inl ⟨by rfl, ?_⟩) ?_; (· decide +kernel); (· decide +kernel); (· decide +kernel); (· (intro w; go_simp))) | (refine wpAny_take (i := 2) (v := .pointer (some ⟨R, 0, none⟩)) rfl ?_ ?_ ?_ (fun _ _ _ h => h) (Or.inl ⟨by rfl, ?_⟩) ?_; (· decide +kernel); (· decide +kernel); (· decide +kernel); (· (intro w; go_simp))) | (refine wpAny_take (i := 15) (v := .pointer (some ⟨R, 0, none⟩)) rfl ?_ ?_ ?_ (fun _ _ _ h => h) (Or.inl ⟨by rfl, ?_⟩) ?_; (· decide +kernel); (· decide +kernel); (· decide +kernel); (· (intro w; go_simp))) | (refine wpAny_take (i := 4) (v := .pointer (some ⟨R, 0, none⟩)) rfl ?_ ?_ ?_ (fun _ _ _ h => h) (Or.inl ⟨by rfl, ?_⟩) ?_; (· decide +kernel); (· decide +kernel); (· decide +kernel); (· (intro w; go_simp))) | (refine wpAny_take (i := 5) (v := .pointer (some ⟨R, 0, none⟩)) rfl ?_ ?_ ?_ (fun _ _ _ h => h) (Or.inl ⟨by rfl, ?_⟩) ?_; (· decide +kernel); (· decide +kernel); (· decide +kernel); (· (intro w; go_simp))) | (refine wpAny_take (i := 6) (v := .pointer (some ⟨R, 0, none⟩)) rfl ?_ ?_ ?_ (fun _ _ _ h => h) (Or.inl ⟨by rfl, ?_⟩) ?_; (· decide +kernel); (· decide +kernel); (· decide +kernel); (· (intro w; go_simp))) | (refine wpAny_take (i := 8) (v := .pointer (some ⟨R, 0, none⟩)) rfl ?_ ?_ ?_ (fun _ _ _ h => h) (Or.inl ⟨by rfl, ?_⟩) ?_; (· decide +kernel); (· decide +kernel); (· decide +kernel); (· (intro w; go_simp))) | (refine wpAny_take (i := 9) (v := .pointer (some ⟨R, 0, none⟩)) rfl ?_ ?_ ?_ (fun _ _ _ h => h) (Or.inl ⟨by rfl, ?_⟩) ?_; (· decide +kernel); (· decide +kernel); (· decide +kernel); (· (intro w; go_simp))) | (refine wpAny_take (i := 10) (v := .pointer (some ⟨R, 0, none⟩)) rfl ?_ ?_ ?_ (fun _ _ _ h => h) (Or.inl ⟨by rfl, ?_⟩) ?_; (· decide +kernel); (· decide +kernel); (· decide +kernel); (· (intro w; go_simp))) | (refine wpAny_take (i := 12) (v := .pointer (some ⟨R, 0, none⟩)) rfl ?_ ?_ ?_ (fun _ _ _ h => h) (Or.inl ⟨by rfl, ?_⟩) ?_; (· decide +kernel); (· decide +kernel); (· decide +kernel); (· (intro w; go_simp))) | (refine wpAny_take (i := 13) (v := .pointer (some ⟨R, 0, none⟩)) rfl ?_ ?_ ?_ (fun _ _ _ h => h) (Or.inl ⟨by rfl, ?_⟩) ?_; (· decide +kernel); (· decide +kernel); (· decide +kernel); (· (intro w; go_simp))) | (refine wpAny_take (i := 14) (v := .pointer (some ⟨R, 0, none⟩)) rfl ?_ ?_ ?_ (fun _ _ _ h => h) (Or.inl ⟨by rfl, ?_⟩) ?_; (· decide +kernel); (· decide +kernel); (· decide +kernel); (· (intro w; go_simp))) | (refine wpAny_take (i := 16) (v := .func (.func 92) #[.pointer (some ⟨R, 0, none⟩)] #[]) rfl ?_ ?_ ?_ (fun _ _ _ h => h) (Or.inl ⟨by rfl, ?_⟩) ?_; (· decide +kernel); (· decide +kernel); (· decide +kernel); (· (intro w; go_simp))))
            refine wpAny_ready (rs := [17]) (by decide +kernel) (by simp) ?_
            refine AllReady.cons rfl (fun K hK => ?_) AllReady.nil
            go_simp
            refine (some_any d hrv.out _ R T (dep + 1) bs3 bad3 (by have := Hd.out; omega) (by omega) (by omega) (by exact hrd3)).mono ?_
            rintro e w4 ⟨l4, A4, c4, bs4, bad4, dep4, rfl, ho4, hll4, hrd4, hg4, hl4, hh4, hdp1, hdp2, hdp3⟩
            have K4 : W0.grownBy w4 (some R) := grownBy_trans (by exact K3) hg4
            have q4 := K4.size
            have r4 := hrd4.lt
            have hB4 : Blk w4 w2.heap.size 53 [.int .i64 0, .int .i64 0, .string ⟨#[]⟩, .slice none 0 0] := Blk.grown hB3 hg4 (by simp; omega)
            have k0 := hB4.cell 0
            have j0 := hB4.frozen 0
            have k1 := hB4.cell 1
            have j1 := hB4.frozen 1
            have k2 := hB4.cell 2
            have j2 := hB4.frozen 2
            have k3 := hB4.cell 3
            have j3 := hB4.frozen 3
            have jl := hB4.lt
            simp only [List.getElem?_cons_succ, List.getElem?_cons_zero] at k0 k1 k2 k3
            try dsimp only
            refine hK _ _ ?_
            clear hK K
            repeat (first | (refine wpAny_take (i := 18) (v := .agg #[.int .i64 x1, .int .i64 x2, .string x3, .slice A4 l4.length c4]) rfl ?_ ?_ ?_ (fun _ _ _ h => h) (Or.inl ⟨by rfl, ?_⟩) ?_; (· decide +kernel); (· decide +kernel); (· decide +kernel); (· (intro w; go_simp))))
            refine wpAny_ready (rs := [20]) (by decide +kernel) (by simp) ?_
            refine AllReady.cons rfl (fun K hK => ?_) AllReady.nil
            go_simp
            refine hK _ _ ?_
            clear hK K
            refine wpAny_done (by decide +kernel) ?_ _
            go_wp2_with (fail)
            go_meet
            have hz4 := hB0.grown K4 (by simp; omega)
            have hG4 := grownBy_trans hG0 K4
            have hdec := dec_chain hh1.out hh2.out hh3.out hh4.out
            exact mid_set hB4 ho4 (by have := hB3.lt; omega) (by omega) ⟨hx1, hx2⟩ hn2 (by omega) hll4 hz4 l1 hrd4 hG4 (by omega) hdec hdp1 hdp2 hdp3
        · go_simp
          refine hK _ _ ?_
          clear hK K
          repeat (first | (refine wpAny_take (i := 0) (v := .pointer (some ⟨R, 0, none⟩)) rfl ?_ ?_ ?_ (fun _ _ _ h => h) (Or.inl ⟨by rfl, ?_⟩) ?_; (· decide +kernel); (· decide +kernel); (· decide +kernel); (· (intro w; go_simp))) | (refine wpAny_take (i := 1) (v := .pointer (some ⟨R, 0, none⟩)) rfl ?_ ?_ ?_ (fun _ _ _ h => h) (Or.inl ⟨by rfl, ?_⟩) ?_; (· decide +kernel); (· decide +kernel); (· decide +kernel); (· (intro w; go_simp))) | (refine wpAny_take (i := 2) (v := .pointer (some ⟨R, 0, none⟩)) rfl ?_ ?_ ?_ (fun _ _ _ h => h) (Or.inl ⟨by rfl, ?_⟩) ?_; (· decide +kernel); (· decide +kernel); (· decide +kernel); (· (intro w; go_simp))) | (refine wpAny_take (i := 15) (v := .pointer (some ⟨R, 0, none⟩)) rfl ?_ ?_ ?_ (fun _ _ _ h => h) (Or.inl ⟨by rfl, ?_⟩) ?_; (· decide +kernel); (· decide +kernel); (· decide +kernel); (· (intro w; go_simp))) | (refine wpAny_take (i := 4) (v := .pointer (some ⟨R, 0, none⟩)) rfl ?_ ?_ ?_ (fun _ _ _ h => h) (Or.inl ⟨by rfl, ?_⟩) ?_; (· decide +kernel); (· decide +kernel); (· decide +kernel); (· (intro w; go_simp))) | (refine wpAny_take (i := 5) (v := .pointer (some ⟨R, 0, none⟩)) rfl ?_ ?_ ?_ (fun _ _ _ h => h) (Or.inl ⟨by rfl, ?_⟩) ?_; (· decide +kernel); (· decide +kernel); (· decide +kernel); (· (intro w; go_simp))) | (refine wpAny_take (i := 6) (v := .pointer (some ⟨R, 0, none⟩)) rfl ?_ ?_ ?_ (fun _ _ _ h => h) (Or.inl ⟨by rfl, ?_⟩) ?_; (· decide +kernel); (· decide +kernel); (· decide +kernel); (· (intro w; go_simp))) | (refine wpAny_take (i := 8) (v := .pointer (some ⟨R, 0, none⟩)) rfl ?_ ?_ ?_ (fun _ _ _ h => h) (Or.inl ⟨by rfl, ?_⟩) ?_; (· decide +kernel); (· decide +kernel); (· decide +kernel); (· (intro w; go_simp))) | (refine wpAny_take (i := 9) (v := .pointer (some ⟨R, 0, none⟩)) rfl ?_ ?_ ?_ (fun _ _ _ h => h) (Or.inl ⟨by rfl, ?_⟩) ?_; (· decide +kernel); (· decide +kernel); (· decide +kernel); (· (intro w; go_simp))) | (refine wpAny_take (i := 10) (v := .pointer (some ⟨R, 0, none⟩)) rfl ?_ ?_ ?_ (fun _ _ _ h => h) (Or.inl ⟨by rfl, ?_⟩) ?_; (· decide +kernel); (· decide +kernel); (· decide +kernel); (· (intro w; go_simp))) | (refine wpAny_take (i := 12) (v := .pointer (some ⟨R, 0, none⟩)) rfl ?_ ?_ ?_ (fun _ _ _ h => h) (Or.inl ⟨by rfl, ?_⟩) ?_; (· decide +kernel); (· decide +kernel); (· decide +kernel); (· (intro w; go_simp))) | (refine wpAny_take (i := 13) (v := .pointer (some ⟨R, 0, none⟩)) rfl ?_ ?_ ?_ (fun _ _ _ h => h) (Or.inl ⟨by rfl, ?_⟩) ?_; (· decide +kernel); (· decide +kernel); (· decide +kernel); (· (intro w; go_simp))) | (refine wpAny_take (i := 14) (v := .pointer (some ⟨R, 0, none⟩)) rfl ?_ ?_ ?_ (fun _ _ _ h => h) (Or.inl ⟨by rfl, ?_⟩) ?_; (· decide +kernel); (· decide +kernel); (· decide +kernel); (· (intro w; go_simp))) | (refine wpAny_take (i := 16) (v := .func (.func 92) #[.pointer (some ⟨R, 0, none⟩)] #[]) rfl ?_ ?_ ?_ (fun _ _ _ h => h) (Or.inl ⟨by rfl, ?_⟩) ?_; (· decide +kernel); (· decide +kernel); (· decide +kernel); (· (intro w; go_simp))))
          refine wpAny_ready (rs := [7]) (by decide +kernel) (by simp) ?_
          refine AllReady.cons rfl (fun K hK => ?_) AllReady.nil
          go_simp
          refine (rint_any _ R T [.int .i64 (dep + 1)] bs1 bad1 (by exact hrd1.alloc _)).mono ?_
          rintro e w2 ⟨v2, x2, bs2, bad2, rfl, ⟨rfl, hn2⟩, hrd2, hg2, hl2, hh2⟩
          have K2 : W0.grownBy w2 (some R) := grownBy_trans (by exact (grownBy_alloc K1 _)) hg2
          have q2 := K2.size
          have r2 := hrd2.lt
          have hB2 : Blk w2 w1.heap.size 53 [.int .i64 0, .int .i64 0, .string ⟨#[]⟩, .slice none 0 0] := Blk.grown (by exact ZZ.out w1) hg2 (by simp; omega)
          try dsimp only
          refine hK _ _ ?_
          clear hK K
          repeat (first | (refine wpAny_take (i := 0) (v := .pointer (some ⟨R, 0, none⟩)) rfl ?_ ?_ ?_ (fun _ _ _ h => h) (Or.inl ⟨by rfl, ?_⟩) ?_; (· decide +kernel); (· decide +kernel); (· decide +kernel); (· (intro w; go_simp))) | (refine wpAny_take (i := 1) (v := .pointer (some ⟨R, 0, none⟩)) rfl ?_ ?_ ?_ (fun _ _ _ h => h) (Or.inl ⟨by rfl, ?_⟩) ?_; (· decide +kernel); (· decide +kernel); (· decide +kernel); (· (intro w; go_simp))) | (refine wpAny_take (i := 2) (v := .pointer (some ⟨R, 0, none⟩)) rfl ?_ ?_ ?_ (fun _ _ _ h => h) (Or.inl ⟨by rfl, ?_⟩) ?_; (· decide +kernel); (· decide +kernel); (· decide +kernel); (· (intro w; go_simp))) | (refine wpAny_take (i := 15) (v := .pointer (some ⟨R, 0, none⟩)) rfl ?_ ?_ ?_ (fun _ _ _ h => h) (Or.inl ⟨by rfl, ?_⟩) ?_; (· decide +kernel); (· decide +kernel); (· decide +kernel); (· (intro w; go_simp))) | (refine wpAny_take (i := 4) (v := .pointer (some ⟨R, 0, none⟩)) rfl ?_ ?_ ?_ (fun _ _ _ h => h) (Or.inl ⟨by rfl, ?_⟩) ?_; (· decide +kernel); (· decide +kernel); (· decide +kernel); (· (intro w; go_simp))) | (refine wpAny_take (i := 5) (v := .pointer (some ⟨R, 0, none⟩)) rfl ?_ ?_ ?_ (fun _ _ _ h => h) (Or.inl ⟨by rfl, ?_⟩) ?_; (· decide +kernel); (· decide +kernel); (· decide +kernel); (· (intro w; go_simp))) | (refine wpAny_take (i := 6) (v := .pointer (some ⟨R, 0, none⟩)) rfl ?_ ?_ ?_ (fun _ _ _ h => h) (Or.inl ⟨by rfl, ?_⟩) ?_; (· decide +kernel); (· decide +kernel); (· decide +kernel); (· (intro w; go_simp))) | (refine wpAny_take (i := 8) (v := .pointer (some ⟨R, 0, none⟩)) rfl ?_ ?_ ?_ (fun _ _ _ h => h) (Or.inl ⟨by rfl, ?_⟩) ?_; (· decide +kernel); (· decide +kernel); (· decide +kernel); (· (intro w; go_simp))) | (refine wpAny_take (i := 9) (v := .pointer (some ⟨R, 0, none⟩)) rfl ?_ ?_ ?_ (fun _ _ _ h => h) (Or.inl ⟨by rfl, ?_⟩) ?_; (· decide +kernel); (· decide +kernel); (· decide +kernel); (· (intro w; go_simp))) | (refine wpAny_take (i := 10) (v := .pointer (some ⟨R, 0, none⟩)) rfl ?_ ?_ ?_ (fun _ _ _ h => h) (Or.inl ⟨by rfl, ?_⟩) ?_; (· decide +kernel); (· decide +kernel); (· decide +kernel); (· (intro w; go_simp))) | (refine wpAny_take (i := 12) (v := .pointer (some ⟨R, 0, none⟩)) rfl ?_ ?_ ?_ (fun _ _ _ h => h) (Or.inl ⟨by rfl, ?_⟩) ?_; (· decide +kernel); (· decide +kernel); (· decide +kernel); (· (intro w; go_simp))) | (refine wpAny_take (i := 13) (v := .pointer (some ⟨R, 0, none⟩)) rfl ?_ ?_ ?_ (fun _ _ _ h => h) (Or.inl ⟨by rfl, ?_⟩) ?_; (· decide +kernel); (· decide +kernel); (· decide +kernel); (· (intro w; go_simp))) | (refine wpAny_take (i := 14) (v := .pointer (some ⟨R, 0, none⟩)) rfl ?_ ?_ ?_ (fun _ _ _ h => h) (Or.inl ⟨by rfl, ?_⟩) ?_; (· decide +kernel); (· decide +kernel); (· decide +kernel); (· (intro w; go_simp))) | (refine wpAny_take (i := 16) (v := .func (.func 92) #[.pointer (some ⟨R, 0, none⟩)] #[]) rfl ?_ ?_ ?_ (fun _ _ _ h => h) (Or.inl ⟨by rfl, ?_⟩) ?_; (· decide +kernel); (· decide +kernel); (· decide +kernel); (· (intro w; go_simp))))
          refine wpAny_ready (rs := [11]) (by decide +kernel) (by simp) ?_
          refine AllReady.cons rfl (fun K hK => ?_) AllReady.nil
          go_simp
          refine (rtext_any _ R T [.int .i64 (dep + 1)] bs2 bad2 (by exact hrd2)).mono ?_
          rintro e w3 ⟨v3, x3, bs3, bad3, rfl, ⟨rfl, ht3⟩, hrd3, hg3, hl3, hh3⟩
          have K3 : W0.grownBy w3 (some R) := grownBy_trans (by exact K2) hg3
          have q3 := K3.size
          have r3 := hrd3.lt
          have hB3 : Blk w3 w1.heap.size 53 [.int .i64 0, .int .i64 0, .string ⟨#[]⟩, .slice none 0 0] := Blk.grown hB2 hg3 (by simp; omega)
          try dsimp only
          refine hK _ _ ?_
          clear hK K
          repeat (first | (refine wpAny_take (i := 0) (v := .pointer (some ⟨R, 0, none⟩)) rfl ?_ ?_ ?_ (fun _ _ _ h => h) (Or.inl ⟨by rfl, ?_⟩) ?_; (· decide +kernel); (· decide +kernel); (· decide +kernel); (· (intro w; go_simp))) | (refine wpAny_take (i := 1) (v := .pointer (some ⟨R, 0, none⟩)) rfl ?_ ?_ ?_ (fun _ _ _ h => h) (Or.inl ⟨by rfl, ?_⟩) ?_; (· decide +kernel); (· decide +kernel); (· decide +kernel); (· (intro w; go_simp))) | (refine wpAny_take (i := 2) (v := .pointer (some ⟨R, 0, none⟩)) rfl ?_ ?_ ?_ (fun _ _ _ h => h) (Or.inl ⟨by rfl, ?_⟩) ?_; (· decide +kernel); (· decide +kernel); (· decide +kernel); (· (intro w; go_simp))) | (refine wpAny_take (i := 15) (v := .pointer (some ⟨R, 0, none⟩)) rfl ?_ ?_ ?_ (fun _ _ _ h => h) (Or.inl ⟨by rfl, ?_⟩) ?_; (· decide +kernel); (· decide +kernel); (· decide +kernel); (· (intro w; go_simp))) | (refine wpAny_take (i := 4) (v := .pointer (some ⟨R, 0, none⟩)) rfl ?_ ?_ ?_ (fun _ _ _ h => h) (Or.inl ⟨by rfl, ?_⟩) ?_; (· decide +kernel); (· decide +kernel); (· decide +kernel); (· (intro w; go_simp))) | (refine wpAny_take (i := 5) (v := .pointer (some ⟨R, 0, none⟩)) rfl ?_ ?_ ?_ (fun _ _ _ h => h) (Or.inl ⟨by rfl, ?_⟩) ?_; (· decide +kernel); (· decide +kernel); (· decide +kernel); (· (intro w; go_simp))) | (refine wpAny_take (i := 6) (v := .pointer (some ⟨R, 0, none⟩)) rfl ?_ ?_ ?_ (fun _ _ _ h => h) (Or.inl ⟨by rfl, ?_⟩) ?_; (· decide +kernel); (· decide +kernel); (· decide +kernel); (· (intro w; go_simp))) | (refine wpAny_take (i := 8) (v := .pointer (some ⟨R, 0, none⟩)) rfl ?_ ?_ ?_ (fun _ _ _ h => h) (Or.inl ⟨by rfl, ?_⟩) ?_; (· decide +kernel); (· decide +kernel); (· decide +kernel); (· (intro w; go_simp))) | (refine wpAny_take (i := 9) (v := .pointer (some ⟨R, 0, none⟩)) rfl ?_ ?_ ?_ (fun _ _ _ h => h) (Or.inl ⟨by rfl, ?_⟩) ?_; (· decide +kernel); (· decide +kernel); (· decide +kernel); (· (intro w; go_simp))) | (refine wpAny_take (i := 10) (v := .pointer (some ⟨R, 0, none⟩)) rfl ?_ ?_ ?_ (fun _ _ _ h => h) (Or.inl ⟨by rfl, ?_⟩) ?_; (· decide +kernel); (· decide +kernel); (· decide +kernel); (· (intro w; go_simp))) | (refine wpAny_take (i := 12) (v := .pointer (some ⟨R, 0, none⟩)) rfl ?_ ?_ ?_ (fun _ _ _ h => h) (Or.inl ⟨by rfl, ?_⟩) ?_; (· decide +kernel); (· decide +kernel); (· decide +kernel); (· (intro w; go_simp))) | (refine wpAny_take (i := 13) (v := .pointer (some ⟨R, 0, none⟩)) rfl ?_ ?_ ?_ (fun _ _ _ h => h) (Or.inl ⟨by rfl, ?_⟩) ?_; (· decide +kernel); (· decide +kernel); (· decide +kernel); (· (intro w; go_simp))) | (refine wpAny_take (i := 14) (v := .pointer (some ⟨R, 0, none⟩)) rfl ?_ ?_ ?_ (fun _ _ _ h => h) (Or.inl ⟨by rfl, ?_⟩) ?_; (· decide +kernel); (· decide +kernel); (· decide +kernel); (· (intro w; go_simp))) | (refine wpAny_take (i := 16) (v := .func (.func 92) #[.pointer (some ⟨R, 0, none⟩)] #[]) rfl ?_ ?_ ?_ (fun _ _ _ h => h) (Or.inl ⟨by rfl, ?_⟩) ?_; (· decide +kernel); (· decide +kernel); (· decide +kernel); (· (intro w; go_simp))))
          refine wpAny_ready (rs := [17]) (by decide +kernel) (by simp) ?_
          refine AllReady.cons rfl (fun K hK => ?_) AllReady.nil
          go_simp
          refine (some_any d hrv.out _ R T (dep + 1) bs3 bad3 (by have := Hd.out; omega) (by omega) (by omega) (by exact hrd3)).mono ?_
          rintro e w4 ⟨l4, A4, c4, bs4, bad4, dep4, rfl, ho4, hll4, hrd4, hg4, hl4, hh4, hdp1, hdp2, hdp3⟩
          have K4 : W0.grownBy w4 (some R) := grownBy_trans (by exact K3) hg4
          have q4 := K4.size
          have r4 := hrd4.lt
          have hB4 : Blk w4 w1.heap.size 53 [.int .i64 0, .int .i64 0, .string ⟨#[]⟩, .slice none 0 0] := Blk.grown hB3 hg4 (by simp; omega)
          have k0 := hB4.cell 0
          have j0 := hB4.frozen 0
          have k1 := hB4.cell 1
          have j1 := hB4.frozen 1
          have k2 := hB4.cell 2
          have j2 := hB4.frozen 2
          have k3 := hB4.cell 3
          have j3 := hB4.frozen 3
          have jl := hB4.lt
          simp only [List.getElem?_cons_succ, List.getElem?_cons_zero] at k0 k1 k2 k3
          try dsimp only
          refine hK _ _ ?_
          clear hK K
          repeat (first | (refine wpAny_take (i := 18) (v := .agg #[.int .i64 x1, .int .i64 x2, .string x3, .slice A4 l4.length c4]) rfl ?_ ?_ ?_ (fun _ _ _ h => h) (Or.inl ⟨by rfl, ?_⟩) ?_; (· decide +kernel); (· decide +kernel); (· decide +kernel); (· (intro w; go_simp))))
          refine wpAny_ready (rs := [20]) (by decide +kernel) (by simp) ?_
          refine AllReady.cons rfl (fun K hK => ?_) AllReady.nil
          go_simp
          refine hK _ _ ?_
          clear hK K
          refine wpAny_done (by decide +kernel) ?_ _
          go_wp2_with (fail)
          go_meet
          have hz4 := hB0.grown K4 (by simp; omega)
          have hG4 := grownBy_trans hG0 K4
          have hdec := dec_chain hh1.out hh2.out hh3.out hh4.out
          exact mid_set hB4 ho4 (by have := hB3.lt; omega) (by omega) ⟨hx1, hx2⟩ hn2 (by omega) hll4 hz4 l1 hrd4 hG4 (by omega) hdec hdp1 hdp2 hdp3
      · go_simp
        refine hK _ _ ?_
        clear hK K
        repeat (first | (refine wpAny_take (i := 0) (v := .pointer (some ⟨R, 0, none⟩)) rfl ?_ ?_ ?_ (fun _ _ _ h => h) (Or.inl ⟨by rfl, ?_⟩) ?_; (· decide +kernel); (· decide +kernel); (· decide +kernel); (· (intro w; go_simp))) | (refine wpAny_take (i := 1) (v := .pointer (some ⟨R, 0, none⟩)) rfl ?_ ?_ ?_ (fun _ _ _ h => h) (Or.inl ⟨by rfl, ?_⟩) ?_; (· decide +kernel); (· decide +kernel); (· decide +kernel); (· (intro w; go_simp))) | (refine wpAny_take (i := 2) (v := .pointer (some ⟨R, 0, none⟩)) rfl ?_ ?_ ?_ (fun _ _ _ h => h) (Or.inl ⟨by rfl, ?_⟩) ?_; (· decide +kernel); (· decide +kernel); (· decide +kernel); (· (intro w; go_simp))) | (refine wpAny_take (i := 15) (v := .pointer (some ⟨R, 0, none⟩)) rfl ?_ ?_ ?_ (fun _ _ _ h => h) (Or.inl ⟨by rfl, ?_⟩) ?_; (· decide +kernel); (· decide +kernel); (· decide +kernel); (· (intro w; go_simp))) | (refine wpAny_take (i := 4) (v := .pointer (some ⟨R, 0, none⟩)) rfl ?_ ?_ ?_ (fun _ _ _ h => h) (Or.inl ⟨by rfl, ?_⟩) ?_; (· decide +kernel); (· decide +kernel); (· decide +kernel); (· (intro w; go_simp))) | (refine wpAny_take (i := 5) (v := .pointer (some ⟨R, 0, none⟩)) rfl ?_ ?_ ?_ (fun _ _ _ h => h) (Or.inl ⟨by rfl, ?_⟩) ?_; (· decide +kernel); (· decide +kernel); (· decide +kernel); (· (intro w; go_simp))) | (refine wpAny_take (i := 6) (v := .pointer (some ⟨R, 0, none⟩)) rfl ?_ ?_ ?_ (fun _ _ _ h => h) (Or.inl ⟨by rfl, ?_⟩) ?_; (· decide +kernel); (· decide +kernel); (· decide +kernel); (· (intro w; go_simp))) | (refine wpAny_take (i := 8) (v := .pointer (some ⟨R, 0, none⟩)) rfl ?_ ?_ ?_ (fun _ _ _ h => h) (Or.inl ⟨by rfl, ?_⟩) ?_; (· decide +kernel); (· decide +kernel); (· decide +kernel); (· (intro w; go_simp))) | (refine wpAny_take (i := 9) (v := .pointer (some ⟨R, 0, none⟩)) rfl ?_ ?_ ?_ (fun _ _ _ h => h) (Or.inl ⟨by rfl, ?_⟩) ?_; (· decide +kernel); (· decide +kernel); (· decide +kernel); (· (intro w; go_simp))) | (refine wpAny_take (i := 10) (v := .pointer (some ⟨R, 0, none⟩)) rfl ?_ ?_ ?_ (fun _ _ _ h => h) (Or.inl ⟨by rfl, ?_⟩) ?_; (· decide +kernel); (· decide +kernel); (· decide +kernel); (· (intro w; go_simp))) | (refine wpAny_take (i := 12) (v := .pointer (some ⟨R, 0, none⟩)) rfl ?_ ?_ ?_ (fun _ _ _ h => h) (Or.inl ⟨by rfl, ?_⟩) ?_; (· decide +kernel); (· decide +kernel); (· decide +kernel); (· (intro w; go_simp))) | (refine wpAny_take (i := 13) (v := .pointer (some ⟨R, 0, none⟩)) rfl ?_ ?_ ?_ (fun _ _ _ h => h) (Or.inl ⟨by rfl, ?_⟩) ?_; (· decide +kernel); (· decide +kernel); (· decide +kernel); (· (intro w; go_simp))) | (refine wpAny_take (i := 14) (v := .pointer (some ⟨R, 0, none⟩)) rfl ?_ ?_ ?_ (fun _ _ _ h => h) (Or.inl ⟨by rfl, ?_⟩) ?_; (· decide +kernel); (· decide +kernel); (· decide +kernel); (· (intro w; go_simp))) | (refine wpAny_take (i := 16) (v := .func (.func 92) #[.pointer (some ⟨R, 0, none⟩)] #[]) rfl ?_ ?_ ?_ (fun _ _ _ h => h) (Or.inl ⟨by rfl, ?_⟩) ?_; (· decide +kernel); (· decide +kernel); (· decide +kernel); (· (intro w; go_simp))))
        refine wpAny_ready (rs := [3]) (by decide +kernel) (by simp) ?_
        refine AllReady.cons rfl (fun K hK => ?_) AllReady.nil
        go_simp
        refine (byte_any _ R T [.int .i64 (dep + 1)] bs false (by exact hrd0.alloc _)).mono ?_
        rintro e w1 ⟨v1, x1, bs1, bad1, rfl, ⟨rfl, hx1, hx2⟩, hrd1, hg1, hl1, hh1⟩
        have K1 : W0.grownBy w1 (some R) := grownBy_trans (by exact (grownBy_alloc (grownBy_drew (World.grownBy.refl W0 _)) _)) hg1
        have q1 := K1.size
        have r1 := hrd1.lt
        have hB1 : Blk w1 W0.heap.size 53 [.int .i64 0, .int .i64 0, .string ⟨#[]⟩, .slice none 0 0] := Blk.grown (by exact ZZ.out W0) hg1 (by simp; omega)
        try dsimp only
        refine hK _ _ ?_
        clear hK K
        repeat (first | (refine wpAny_take (i := 0) (v := .pointer (some ⟨R, 0, none⟩)) rfl ?_ ?_ ?_ (fun _ _ _ h => h) (Or.inl ⟨by rfl, ?_⟩) ?_; (· decide +kernel); (· decide +kernel); (· decide +kernel); (· (intro w; go_simp))) | (refine wpAny_take (i := 1) (v := .pointer (some ⟨R, 0, none⟩)) rfl ?_ ?_ ?_ (fun _ _ _ h => h) (Or.inl ⟨by rfl, ?_⟩) ?_; (· decide +kernel); (· decide +kernel); (· decide +kernel); (· (intro w; go_simp))) | (refine wpAny_take (i := 2) (v := .pointer (some ⟨R, 0, none⟩)) rfl ?_ ?_ ?_ (fun _ _ _ h => h) (Or.inl ⟨by rfl, ?_⟩) ?_; (· decide +kernel); (· decide +kernel); (· decide +kernel); (· (intro w; go_simp))) | (refine wpAny_take (i := 15) (v := .pointer (some ⟨R, 0, none⟩)) rfl ?_ ?_ ?_ (fun _ _ _ h => h) (Or.inl ⟨by rfl, ?_⟩) ?_; (· decide +kernel); (· decide +kernel); (· decide +kernel); (· (intro w; go_simp))) | (refine wpAny_take (i := 4) (v := .pointer (some ⟨R, 0, none⟩)) rfl ?_ ?_ ?_ (fun _ _ _ h => h) (Or.inl ⟨by rfl, ?_⟩) ?_; (· decide +kernel); (· decide +kernel); (· decide +kernel); (· (intro w; go_simp))) | (refine wpAny_take (i := 5) (v := .pointer (some ⟨R, 0, none⟩)) rfl ?_ ?_ ?_ (fun _ _ _ h => h) (Or.inl ⟨by rfl, ?_⟩) ?_; (· decide +kernel); (· decide +kernel); (· decide +kernel); (· (intro w; go_simp))) | (refine wpAny_take (i := 6) (v := .pointer (some ⟨R, 0, none⟩)) rfl ?_ ?_ ?_ (fun _ _ _ h => h) (Or.inl ⟨by rfl, ?_⟩) ?_; (· decide +kernel); (· decide +kernel); (· decide +kernel); (· (intro w; go_simp))) | (refine wpAny_take (i := 8) (v := .pointer (some ⟨R, 0, none⟩)) rfl ?_ ?_ ?_ (fun _ _ _ h => h) (Or.inl ⟨by rfl, ?_⟩) ?_; (· decide +kernel); (· decide +kernel); (· decide +kernel); (· (intro w; go_simp))) | (refine wpAny_take (i := 9) (v := .pointer (some ⟨R, 0, none⟩)) rfl ?_ ?_ ?_ (fun _ _ _ h => h) (Or.inl ⟨by rfl, ?_⟩) ?_; (· decide +kernel); (· decide +kernel); (· decide +kernel); (· (intro w; go_simp))) | (refine wpAny_take (i := 10) (v := .pointer (some ⟨R, 0, none⟩)) rfl ?_ ?_ ?_ (fun _ _ _ h => h) (Or.inl ⟨by rfl, ?_⟩) ?_; (· decide +kernel); (· decide +kernel); (· decide +kernel); (· (intro w; go_simp))) | (refine wpAny_take (i := 12) (v := .pointer (some ⟨R, 0, none⟩)) rfl ?_ ?_ ?_ (fun _ _ _ h => h) (Or.inl ⟨by rfl, ?_⟩) ?_; (· decide +kernel); (· decide +kernel); (· decide +kernel); (· (intro w; go_simp))) | (refine wpAny_take (i := 13) (v := .pointer (some ⟨R, 0, none⟩)) rfl ?_ ?_ ?_ (fun _ _ _ h => h) (Or.inl ⟨by rfl, ?_⟩) ?_; (· decide +kernel); (· decide +kernel); (· decide +kernel); (· (intro w; go_simp))) | (refine wpAny_take (i := 14) (v := .pointer (some ⟨R, 0, none⟩)) rfl ?_ ?_ ?_ (fun _ _ _ h => h) (Or.inl ⟨by rfl, ?_⟩) ?_; (· decide +kernel); (· decide +kernel); (· decide +kernel); (· (intro w; go_simp))) | (refine wpAny_take (i := 16) (v := .func (.func 92) #[.pointer (some ⟨R, 0, none⟩)] #[]) rfl ?_ ?_ ?_ (fun _ _ _ h => h) (Or.inl ⟨by rfl, ?_⟩) ?_; (· decide +kernel); (· decide +kernel); (· decide +kernel); (· (intro w; go_simp))))
        refine wpAny_ready (rs := [7]) (by decide +kernel) (by simp) ?_
        refine AllReady.cons rfl (fun K hK => ?_) AllReady.nil
        go_simp
        refine (rint_any _ R T [.int .i64 (dep + 1)] bs1 bad1 (by exact hrd1)).mono ?_
        rintro e w2 ⟨v2, x2, bs2, bad2, rfl, ⟨rfl, hn2⟩, hrd2, hg2, hl2, hh2⟩
        have K2 : W0.grownBy w2 (some R) := grownBy_trans (by exact K1) hg2
        have q2 := K2.size
        have r2 := hrd2.lt
        have hB2 : Blk w2 W0.heap.size 53 [.int .i64 0, .int .i64 0, .string ⟨#[]⟩, .slice none 0 0] := Blk.grown hB1 hg2 (by simp; omega)
        try dsimp only
        refine hK _ _ ?_
        clear hK K
        repeat (first | (refine wpAny_take (i := 0) (v := .pointer (some ⟨R, 0, none⟩)) rfl ?_ ?_ ?_ (fun _ _ _ h => h) (Or.inl ⟨by rfl, ?_⟩) ?_; (· decide +kernel); (· decide +kernel); (· decide +kernel); (· (intro w; go_simp))) | (refine wpAny_take (i := 1) (v := .pointer (some ⟨R, 0, none⟩)) rfl ?_ ?_ ?_ (fun _ _ _ h => h) (Or.inl ⟨by rfl, ?_⟩) ?_; (· decide +kernel); (· decide +kernel); (· decide +kernel); (· (intro w; go_simp))) | (refine wpAny_take (i := 2) (v := .pointer (some ⟨R, 0, none⟩)) rfl ?_ ?_ ?_ (fun _ _ _ h => h) (Or.inl ⟨by rfl, ?_⟩) ?_; (· decide +kernel); (· decide +kernel); (· decide +kernel); (· (intro w; go_simp))) | (refine wpAny_take (i := 15) (v := .pointer (some ⟨R, 0, none⟩)) rfl ?_ ?_ ?_ (fun _ _ _ h => h) (Or.inl ⟨by rfl, ?_⟩) ?_; (· decide +kernel); (· decide +kernel); (· decide +kernel); (· (intro w; go_simp))) | (refine wpAny_take (i := 4) (v := .pointer (some ⟨R, 0, none⟩)) rfl ?_ ?_ ?_ (fun _ _ _ h => h) (Or.inl ⟨by rfl, ?_⟩) ?_; (· decide +kernel); (· decide +kernel); (· decide +kernel); (· (intro w; go_simp))) | (refine wpAny_take (i := 5) (v := .pointer (some ⟨R, 0, none⟩)) rfl ?_ ?_ ?_ (fun _ _ _ h => h) (Or.inl ⟨by rfl, ?_⟩) ?_; (· decide +kernel); (· decide +kernel); (· decide +kernel); (· (intro w; go_simp))) | (refine wpAny_take (i := 6) (v := .pointer (some ⟨R, 0, none⟩)) rfl ?_ ?_ ?_ (fun _ _ _ h => h) (Or.inl ⟨by rfl, ?_⟩) ?_; (· decide +kernel); (· decide +kernel); (· decide +kernel); (· (intro w; go_simp))) | (refine wpAny_take (i := 8) (v := .pointer (some ⟨R, 0, none⟩)) rfl ?_ ?_ ?_ (fun _ _ _ h => h) (Or.inl ⟨by rfl, ?_⟩) ?_; (· decide +kernel); (· decide +kernel); (· decide +kernel); (· (intro w; go_simp))) | (refine wpAny_take (i := 9) (v := .pointer (some ⟨R, 0, none⟩)) rfl ?_ ?_ ?_ (fun _ _ _ h => h) (Or.inl ⟨by rfl, ?_⟩) ?_; (· decide +kernel); (· decide +kernel); (· decide +kernel); (· (intro w; go_simp))) | (refine wpAny_take (i := 10) (v := .pointer (some ⟨R, 0, none⟩)) rfl ?_ ?_ ?_ (fun _ _ _ h => h) (Or.inl ⟨by rfl, ?_⟩) ?_; (· decide +kernel); (· decide +kernel); (· decide +kernel); (· (intro w; go_simp))) | (refine wpAny_take (i := 12) (v := .pointer (some ⟨R, 0, none⟩)) rfl ?_ ?_ ?_ (fun _ _ _ h => h) (Or.inl ⟨by rfl, ?_⟩) ?_; (· decide +kernel); (· decide +kernel); (· decide +kernel); (· (intro w; go_simp))) | (refine wpAny_take (i := 13) (v := .pointer (some ⟨R, 0, none⟩)) rfl ?_ ?_ ?_ (fun _ _ _ h => h) (Or.inl ⟨by rfl, ?_⟩) ?_; (· decide +kernel); (· decide +kernel); (· decide +kernel); (· (intro w; go_simp))) | (refine wpAny_take (i := 14) (v := .pointer (some ⟨R, 0, none⟩)) rfl ?_ ?_ ?_ (fun _ _ _ h => h) (Or.inl ⟨by rfl, ?_⟩) ?_; (· decide +kernel); (· decide +kernel); (· decide +kernel); (· (intro w; go_simp))) | (refine wpAny_take (i := 16) (v := .func (.func 92) #[.pointer (some ⟨R, 0, none⟩)] #[]) rfl ?_ ?_ ?_ (fun _ _ _ h => h) (Or.inl ⟨by rfl, ?_⟩) ?_; (· decide +kernel); (· decide +kernel); (· decide +kernel); (· (intro w; go_simp))))
        refine wpAny_ready (rs := [11]) (by decide +kernel) (by simp) ?_
        refine AllReady.cons rfl (fun K hK => ?_) AllReady.nil
        go_simp
        refine (rtext_any _ R T [.int .i64 (dep + 1)] bs2 bad2 (by exact hrd2)).mono ?_
        rintro e w3 ⟨v3, x3, bs3, bad3, rfl, ⟨rfl, ht3⟩, hrd3, hg3, hl3, hh3⟩
        have K3 : W0.grownBy w3 (some R) := grownBy_trans (by exact K2) hg3
        have q3 := K3.size
        have r3 := hrd3.lt
        have hB3 : Blk w3 W0.heap.size 53 [.int .i64 0, .int .i64 0, .string ⟨#[]⟩, .slice none 0 0] := Blk.grown hB2 hg3 (by simp; omega)
        try dsimp only
        refine hK _ _ ?_
        clear hK K
        repeat (first | (refine wpAny_take (i := 0) (v := .pointer (some ⟨R, 0, none⟩)) rfl ?_ ?_ ?_ (fun _ _ _ h => h) (Or.inl ⟨by rfl, ?_⟩) ?_; (· decide +kernel); (· decide +kernel); (· decide +kernel); (· (intro w; go_simp))) | (refine wpAny_take (i := 1) (v := .pointer (some ⟨R, 0, none⟩)) rfl ?_ ?_ ?_ (fun _ _ _ h => h) (Or.inl ⟨by rfl, ?_⟩) ?_; (· decide +kernel); (· decide +kernel); (· decide +kernel); (· (intro w; go_simp))) | (refine wpAny_take (i := 2) (v := .pointer (some ⟨R, 0, none⟩)) rfl ?_ ?_ ?_ (fun _ _ _ h => h) (Or.inl ⟨by rfl, ?_⟩) ?_; (· decide +kernel); (· decide +kernel); (· decide +kernel); (· (intro w; go_simp))) | (refine wpAny_take (i := 15) (v := .pointer (some ⟨R, 0, none⟩)) rfl ?_ ?_ ?_ (fun _ _ _ h => h) (Or.inl ⟨by rfl, ?_⟩) ?_; (· decide +kernel); (· decide +kernel); (· decide +kernel); (· (intro w; go_simp))) | (refine wpAny_take (i := 4) (v := .pointer (some ⟨R, 0, none⟩)) rfl ?_ ?_ ?_ (fun _ _ _ h => h) (Or.inl ⟨by rfl, ?_⟩) ?_; (· decide +kernel); (· decide +kernel); (· decide +kernel); (· (intro w; go_simp))) | (refine wpAny_take (i := 5) (v := .pointer (some ⟨R, 0, none⟩)) rfl ?_ ?_ ?_ (fun _ _ _ h => h) (Or.inl ⟨by rfl, ?_⟩) ?_; (· decide +kernel); (· decide +kernel); (· decide +kernel); (· (intro w; go_simp))) | (refine wpAny_take (i := 6) (v := .pointer (some ⟨R, 0, none⟩)) rfl ?_ ?_ ?_ (fun _ _ _ h => h) (Or.inl ⟨by rfl, ?_⟩) ?_; (· decide +kernel); (· decide +kernel); (· decide +kernel); (· (intro w; go_simp))) | (refine wpAny_take (i := 8) (v := .pointer (some ⟨R, 0, none⟩)) rfl ?_ ?_ ?_ (fun _ _ _ h => h) (Or.inl ⟨by rfl, ?_⟩) ?_; (· decide +kernel); (· decide +kernel); (· decide +kernel); (· (intro w; go_simp))) | (refine wpAny_take (i := 9) (v := .pointer (some ⟨R, 0, none⟩)) rfl ?_ ?_ ?_ (fun _ _ _ h => h) (Or.inl ⟨by rfl, ?_⟩) ?_; (· decide +kernel); (· decide +kernel); (· decide +kernel); (· (intro w; go_simp))) | (refine wpAny_take (i := 10) (v := .pointer (some ⟨R, 0, none⟩)) rfl ?_ ?_ ?_ (fun _ _ _ h => h) (Or.inl ⟨by rfl, ?_⟩) ?_; (· decide +kernel); (· decide +kernel); (· decide +kernel); (· (intro w; go_simp))) | (refine wpAny_take (i := 12) (v := .pointer (some ⟨R, 0, none⟩)) rfl ?_ ?_ ?_ (fun _ _ _ h => h) (Or.inl ⟨by rfl, ?_⟩) ?_; (· decide +kernel); (· decide +kernel); (· decide +kernel); (· (intro w; go_simp))) | (refine wpAny_take (i := 13) (v := .pointer (some ⟨R, 0, none⟩)) rfl ?_ ?_ ?_ (fun _ _ _ h => h) (Or.inl ⟨by rfl, ?_⟩) ?_; (· decide +kernel); (· decide +kernel); (· decide +kernel); (· (intro w; go_simp))) | (refine wpAny_take (i := 14) (v := .pointer (some ⟨R, 0, none⟩)) rfl ?_ ?_ ?_ (fun _ _ _ h => h) (Or.inl ⟨by rfl, ?_⟩) ?_; (· decide +kernel); (· decide +kernel); (· decide +kernel); (· (intro w; go_simp))) | (refine wpAny_take (i := 16) (v := .func (.func 92) #[.pointer (some ⟨R, 0, none⟩)] #[]) rfl ?_ ?_ ?_ (fun _ _ _ h => h) (Or.inl ⟨by rfl, ?_⟩) ?_; (· decide +kernel); (· decide +kernel); (· decide +kernel); (· (intro w; go_simp))))
        refine wpAny_ready (rs := [17]) (by decide +kernel) (by simp) ?_
        refine AllReady.cons rfl (fun K hK => ?_) AllReady.nil
        go_simp
        refine (some_any d hrv.out _ R T (dep + 1) bs3 bad3 (by have := Hd.out; omega) (by omega) (by omega) (by exact hrd3)).mono ?_
        rintro e w4 ⟨l4, A4, c4, bs4, bad4, dep4, rfl, ho4, hll4, hrd4, hg4, hl4, hh4, hdp1, hdp2, hdp3⟩
        have K4 : W0.grownBy w4 (some R) := grownBy_trans (by exact K3) hg4
        have q4 := K4.size
        have r4 := hrd4.lt
        have hB4 : Blk w4 W0.heap.size 53 [.int .i64 0, .int .i64 0, .string ⟨#[]⟩, .slice none 0 0] := Blk.grown hB3 hg4 (by simp; omega)
        have k0 := hB4.cell 0
        have j0 := hB4.frozen 0
        have k1 := hB4.cell 1
        have j1 := hB4.frozen 1
        have k2 := hB4.cell 2
        have j2 := hB4.frozen 2
        have k3 := hB4.cell 3
        have j3 := hB4.frozen 3
        have jl := hB4.lt
        simp only [List.getElem?_cons_succ, List.getElem?_cons_zero] at k0 k1 k2 k3
        try dsimp only
        refine hK _ _ ?_
        clear hK K
        repeat (first | (refine wpAny_take (i := 18) (v := .agg #[.int .i64 x1, .int .i64 x2, .string x3, .slice A4 l4.length c4]) rfl ?_ ?_ ?_ (fun _ _ _ h => h) (Or.inl ⟨by rfl, ?_⟩) ?_; (· decide +kernel); (· decide +kernel); (· decide +kernel); (· (intro w; go_simp))))
        refine wpAny_ready (rs := [20]) (by decide +kernel) (by simp) ?_
        refine AllReady.cons rfl (fun K hK => ?_) AllReady.nil
        go_simp
        refine hK _ _ ?_
        clear hK K
        refine wpAny_done (by decide +kernel) ?_ _
        go_wp2_with (fail)
        go_meet
        have hz4 := hB0.grown K4 (by simp; omega)
        have hG4 := grownBy_trans hG0 K4
        have hdec := dec_chain hh1.out hh2.out hh3.out hh4.out
        exact mid_set hB4 ho4 (by have := hB3.lt; omega) (by omega) ⟨hx1, hx2⟩ hn2 (by omega) hll4 hz4 l1 hrd4 hG4 (by omega) hdec hdp1 hdp2 hdp3
    case rest =>
      obtain ⟨g, k, n, t, l, A, c, bs4, bad4, dep4, rfl, hgw, hbg, hbr, hv, hrd, hgr, hle, hcur, hd1, hd2, hd3⟩ := hcut
      obtain ⟨hc, hf, _⟩ := hrd.cells
      have c2 : wc.cell? ⟨R, 2, none⟩ = some (.int .i64 dep4) := hc 0
      have f2 := hf 2
      have lw := hrd.lt
      obtain ⟨W1, hW1⟩ : ∃ W1, W1 = wc.setCell ⟨R, 2, none⟩ (.int .i64 (dep4 - 1)) := ⟨_, rfl⟩
      have e1 : Blk W1 g 53 [.int .i64 k, .int .i64 n, .string t, .slice A l.length c] := by rw [hW1]; exact hbg.far (by simp; omega) _
      have e2 : Blk W1 w.heap.size 53 [.int .i64 0, .int .i64 0, .string ⟨#[]⟩, .slice none 0 0] := by rw [hW1]; exact hbr.far (by simp; omega) _
      have e3 : Rd W1 R T [.int .i64 (dep4 - 1)] bs4 bad4 := by rw [hW1]; exact hrd.putTl
      have e4 : w.grownBy W1 (some R) := by rw [hW1]; exact grownBy_setCell hgr (.inl rfl) _
      have e5 : VCells (d + 1 + 1) W1 (fun b => w.heap.size < b) [.int .i64 k, .int .i64 n, .string t, .slice A l.length c] (V.mk k n t l) := by
        rw [hW1]
        exact hv.keep fun b hb _ => Below.heap_setCell wc _ _ b (by simp; omega)
      have hfin : RvPost (d + 1) w R T dep bs false (.returned (.agg #[.int .i64 k, .int .i64 n, .string t, .slice A l.length c])) ((((W1.setCell ⟨w.heap.size, 0, none⟩ (.int .i64 k)).setCell ⟨w.heap.size, 1, none⟩ (.int .i64 n)).setCell ⟨w.heap.size, 2, none⟩ (.string t)).setCell ⟨w.heap.size, 3, none⟩ (.slice A l.length c)) :=
        ⟨V.mk k n t l, A, c, bs4, bad4, dep4 - 1, rfl, (e5.keep (same_set4 W1 _ _ _ _ _ (by omega))).imp fun b hb _ => by omega, e3.keep (same_set4 W1 _ _ _ _ _ (by omega)), grownBy_set4 e4 (Nat.le_refl _) _ _ _ _, hle, hcur, by omega, by omega, fun h => by have := hd3 h; omega⟩
      have Hfin := Lib.hid hfin
      have hB4 := Blk.set4 e2 (.int .i64 k) (.int .i64 n) (.string t) (.slice A l.length c)
      have HB4 := Lib.hid hB4
      have m0 := e1.cell 0
      have m1 := e1.cell 1
      have m2 := e1.cell 2
      have m3 := e1.cell 3
      have p0 := e2.cell 0
      have p1 := e2.cell 1
      have p2 := e2.cell 2
      have p3 := e2.cell 3
      have u0 := e2.frozen 0
      have u1 := e2.frozen 1
      have u2 := e2.frozen 2
      have u3 := e2.frozen 3
      simp only [List.getElem?_cons_succ, List.getElem?_cons_zero] at m0 m1 m2 m3 p0 p1 p2 p3
      have HW1 := Lib.hid hW1
      clear hW1 hfin hB4 hc hf hrd hv hcur e1 e2 e3 e4 e5 hbg hbr hrd0 hB0 hG0
      go_upto_region 7 with (fail)
      rw [← HW1.out]
      clear HW1 c2 f2
      go_wp2_with (fail)
      refine ret_blk rfl rfl HB4.out Try.underlying53 (by kernel_rfl) rfl ?_
      exact Hfin.out
end Go.Proofs.Yteojmmjanjilaaa
