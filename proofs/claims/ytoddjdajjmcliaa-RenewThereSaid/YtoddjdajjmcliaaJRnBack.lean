/- Contract of renew.Back's inner function: a copy of a value is stored into a row. · Words for the row that renew.Back fills. · make([]api.Value, n): a row of zero values. · Contract of renew.Back. -/
import Derived.Test.YtoddjdajjmcliaaJRnTurn
import Derived.Test.YtoddjdajjmcliaaSetRow
import Derived.Test.YtoddjdajjmcliaaHeldG
import Derived.Deep.RegionLaw
import Derived.Deep.DeepCutAuto
import Derived.Deep.CutBlock
import Derived.Deep.LoopGhost
set_option linter.unusedVariables false
namespace Go.Mem
open Go.RowKit
theorem setRow_mid {g : Nat} {t : TypeId} : ∀ (vs pre old post : List Value) (w : World), Blk w g t (pre ++ (old ++ post)) → old.length = vs.length → Blk (setRow w g pre.length vs) g t (pre ++ (vs ++ post))
  | [], pre, old, post, w, h, hl => by
    have : old = [] := List.eq_nil_of_length_eq_zero (by simpa using hl)
    subst this
    exact h
  | v :: vs, pre, [], post, w, h, hl => by simp at hl
  | v :: vs, pre, x :: old, post, w, h, hl => by
    have h1 := h.put pre.length v
    have e1 : (pre ++ (x :: old ++ post)).set pre.length v = (pre ++ [v]) ++ (old ++ post) := by simp
    rw [e1] at h1
    have h2 := setRow_mid vs (pre ++ [v]) old post _ h1 (by simpa using hl)
    simpa [setRow] using h2
end Go.Mem
namespace Go.Proofs.Ytoddjdajjmcliaa
open Go.RowKit Go.Mem Go.Sh Go.Maps Go.Val
def PutPost (w : World) (YB i : Nat) (x : V) (e : Ending) (w' : World) : Prop := e = .returned (.tuple #[]) ∧ ∃ w1 A3 c3, Below w.heap.size w w1 ∧ VCells 10 w1 (fun b => w.heap.size ≤ b) [.int .i64 x.kind, .int .i64 x.num, .string x.text, .slice A3 x.args.length c3] x ∧ w'.heap = (setRow w1 YB (i * 4) [.int .i64 x.kind, .int .i64 x.num, .string x.text, .slice A3 x.args.length c3]).heap ∧ Below YB w1 w'
set_option maxRecDepth 100000 in
set_option maxHeartbeats 4000000 in
theorem put_any (w : World) (i n : Nat) (hi : i < n) (hn : n ≤ 1000) (x : V) (A8 : Option Addr) (c8 OB YB : Nat) (cs : List Value) (hY : Blk w YB 47 cs) (hl : cs.length = n * 4) (hO : w.cell? ⟨OB, 1, none⟩ = some (.slice (some ⟨YB, 0, none⟩) n n)) (hx : VCells 10 w Any [.int .i64 x.kind, .int .i64 x.num, .string x.text, .slice A8 x.args.length c8] x) :
    Calls Try.prog 39 #[.int .i64 (i : Nat), .agg #[.int .i64 x.kind, .int .i64 x.num, .string x.text, .slice A8 x.args.length c8], .pointer (some ⟨OB, 0, none⟩)] w (PutPost w YB i x) := by
  obtain ⟨xk, xn, xt, xa⟩ := x
  simp only [V.kind, V.num, V.text, V.args] at hx ⊢
  have lO := lt_of_cell hO
  have HX := Lib.hid hx
  have HY := Lib.hid (And.intro hY hl)
  have i0 : (0 : Int) ≤ (i : Int) := by omega
  have i1 : (i : Int) < (n : Int) := by omega
  clear hx hY hl
  go_enter Try.func39, Try.ntmps39
  go_upto_region 1 with (fail)
  obtain ⟨W, hW⟩ : ∃ W, W = w.alloc (.cells #[.int .i64 xk, .int .i64 xn, .string xt, .slice A8 xa.length c8] 47) := ⟨_, rfl⟩
  obtain ⟨BX, hB⟩ : ∃ b, b = w.heap.size := ⟨_, rfl⟩
  have fX : Blk W BX 47 [.int .i64 xk, .int .i64 xn, .string xt, .slice A8 xa.length c8] := by rw [hW, hB]; exact Blk.new _ _ _
  have hbW : Below w.heap.size w W := by rw [hW]; exact (Below.refl _ _).alloc (Nat.le_refl _) _
  rw [← hW, ← hB]
  have v0 := fX.cell 0
  have v1 := fX.cell 1
  have v2 := fX.cell 2
  have v3 := fX.cell 3
  have lV := fX.lt
  simp only [List.getElem?_cons_zero, List.getElem?_cons_succ] at v0 v1 v2 v3
  have hO' := (hbW.cell (p := ⟨OB, 1, none⟩) lO).trans hO
  have HW := Lib.hid hbW
  clear hW hB fX hbW hO
  refine wp_region_g (S := fun w' => w'.cell? ⟨OB, 1, none⟩ = some (.slice (some ⟨YB, 0, none⟩) n n) ∧ w'.cell? ⟨BX, 0, none⟩ = some (.int .i64 xk) ∧ w'.cell? ⟨BX, 1, none⟩ = some (.int .i64 xn) ∧ w'.cell? ⟨BX, 2, none⟩ = some (.string xt) ∧ w'.cell? ⟨BX, 3, none⟩ = some (.slice A8 xa.length c8)) (m := 6) (by kernel_rfl) ?_
  have hS : (World.drew W).cell? ⟨OB, 1, none⟩ = some (.slice (some ⟨YB, 0, none⟩) n n) ∧ (World.drew W).cell? ⟨BX, 0, none⟩ = some (.int .i64 xk) ∧ (World.drew W).cell? ⟨BX, 1, none⟩ = some (.int .i64 xn) ∧ (World.drew W).cell? ⟨BX, 2, none⟩ = some (.string xt) ∧ (World.drew W).cell? ⟨BX, 3, none⟩ = some (.slice A8 xa.length c8) := ⟨hO', v0, v1, v2, v3⟩
  have hbD : Below w.heap.size w (World.drew W) := ⟨HW.out.os, HW.out.tape, HW.out.output, HW.out.size, HW.out.block⟩
  have HD := Lib.hid hbD
  clear hO' v0 v1 v2 v3 lV hbD
  generalize World.drew W = W0 at *
  repeat (first
    | (refine wpAnyG_take (i := 0) (v := .pointer (some ⟨OB, 1, none⟩)) rfl ?_ ?_ ?_ (fun _ _ _ h => h) (Or.inl ⟨by rfl, ?_⟩) hS ?_; (· decide +kernel); (· decide +kernel); (· decide +kernel); (· (intro w' hS'; obtain ⟨hS1, hS2, hS3, hS4, hS5⟩ := hS'; go_simp)))
    | (refine wpAnyG_take (i := 1) (v := .slice (some ⟨YB, 0, none⟩) n n) rfl ?_ ?_ ?_ (fun _ _ _ h => h) (Or.inl ⟨by rfl, ?_⟩) hS ?_; (· decide +kernel); (· decide +kernel); (· decide +kernel); (· (intro w' hS'; obtain ⟨hS1, hS2, hS3, hS4, hS5⟩ := hS'; go_simp)))
    | (refine wpAnyG_take (i := 2) (v := .int .i64 (i : Nat)) rfl ?_ ?_ ?_ (fun _ _ _ h => h) (Or.inl ⟨by rfl, ?_⟩) hS ?_; (· decide +kernel); (· decide +kernel); (· decide +kernel); (· (intro w' hS'; obtain ⟨hS1, hS2, hS3, hS4, hS5⟩ := hS'; go_simp)))
    | (refine wpAnyG_take (i := 3) (v := .agg #[.int .i64 xk, .int .i64 xn, .string xt, .slice A8 xa.length c8]) rfl ?_ ?_ ?_ (fun _ _ _ h => h) (Or.inl ⟨by rfl, ?_⟩) hS ?_; (· decide +kernel); (· decide +kernel); (· decide +kernel); (· (intro w' hS'; obtain ⟨hS1, hS2, hS3, hS4, hS5⟩ := hS'; go_simp)))
    | (refine wpAnyG_take (i := 5) (v := .pointer (some ⟨YB, i * 4, none⟩)) rfl ?_ ?_ ?_ (fun _ _ _ h => h) (Or.inl ⟨by rfl, ?_⟩) hS ?_; (· decide +kernel); (· decide +kernel); (· decide +kernel); (· (intro w' hS'; obtain ⟨hS1, hS2, hS3, hS4, hS5⟩ := hS'; go_simp))))
  have lX := lt_of_cell hS.2.1
  have lO1 := lt_of_cell hS.1
  refine wpAnyG_ready (rs := [4]) (by decide +kernel) (by simp) ?_
  refine AllReadyG.cons rfl (fun K hK => ?_) AllReadyG.nil
  go_simp
  refine (copyV_any 10 (V.mk xk xn xt xa) A8 c8 W0 Any (HX.out.keep (Same.any HD.out))).mono ?_
  unfold ValPost
  rintro e w1 ⟨hb1, A3, c3, rfl, hv3⟩
  try dsimp only
  simp only [V.kind, V.num, V.text, V.args, vl] at hv3 ⊢
  have hS1 : w1.cell? ⟨OB, 1, none⟩ = some (.slice (some ⟨YB, 0, none⟩) n n) ∧ w1.cell? ⟨BX, 0, none⟩ = some (.int .i64 xk) ∧ w1.cell? ⟨BX, 1, none⟩ = some (.int .i64 xn) ∧ w1.cell? ⟨BX, 2, none⟩ = some (.string xt) ∧ w1.cell? ⟨BX, 3, none⟩ = some (.slice A8 xa.length c8) :=
    ⟨(hb1.cell (p := ⟨OB, 1, none⟩) lO1).trans hS.1, (hb1.cell (p := ⟨BX, 0, none⟩) lX).trans hS.2.1, (hb1.cell (p := ⟨BX, 1, none⟩) lX).trans hS.2.2.1, (hb1.cell (p := ⟨BX, 2, none⟩) lX).trans hS.2.2.2.1, (hb1.cell (p := ⟨BX, 3, none⟩) lX).trans hS.2.2.2.2⟩
  have hb01 : Below w.heap.size w w1 := HD.out.trans (hb1.mono HD.out.size)
  have fY := HY.out.1.below hb01 HY.out.1.lt
  have y0 := (fY.cell (i * 4)).trans (List.getElem?_eq_getElem (show i * 4 < cs.length by rw [HY.out.2]; omega))
  have y1 := (fY.cell (i * 4 + 1)).trans (List.getElem?_eq_getElem (show i * 4 + 1 < cs.length by rw [HY.out.2]; omega))
  have y2 := (fY.cell (i * 4 + 2)).trans (List.getElem?_eq_getElem (show i * 4 + 2 < cs.length by rw [HY.out.2]; omega))
  have y3 := (fY.cell (i * 4 + 3)).trans (List.getElem?_eq_getElem (show i * 4 + 3 < cs.length by rw [HY.out.2]; omega))
  have z0 := fY.frozen (i * 4)
  have z1 := fY.frozen (i * 4 + 1)
  have z2 := fY.frozen (i * 4 + 2)
  have z3 := fY.frozen (i * 4 + 3)
  have lY := fY.lt
  have HV := Lib.hid (hv3.imp (D' := fun b => w.heap.size ≤ b) fun b hb _ => by have h1 : W0.heap.size ≤ b := hb; have := HD.out.size; omega)
  have HW1 := Lib.hid hb01
  generalize cs[i * 4]'(by rw [HY.out.2]; omega) = q0 at y0
  generalize cs[i * 4 + 1]'(by rw [HY.out.2]; omega) = q1 at y1
  generalize cs[i * 4 + 2]'(by rw [HY.out.2]; omega) = q2 at y2
  generalize cs[i * 4 + 3]'(by rw [HY.out.2]; omega) = q3 at y3
  clear hv3 hb01 fY hS lX lO1 hb1
  refine hK _ _ (fun _ => hS1) ?_
  clear hK K
  refine wpAnyG_ready (rs := [5]) (by decide +kernel) (by simp) ?_
  refine AllReadyG.cons rfl (fun K hK => ?_) AllReadyG.nil
  go_simp
  refine hK _ _ (fun _ => hS1) ?_
  clear hK K
  refine wpAnyG_ready (rs := [6]) (by decide +kernel) (by simp) ?_
  refine AllReadyG.cons rfl (fun K hK => ?_) AllReadyG.nil
  go_simp
  refine hK _ _ (fun h => absurd h (by decide)) ?_
  clear hK K
  refine wpAnyG_done (by decide +kernel) ?_ _
  clear hS1 y0 y1 y2 y3 z0 z1 z2 z3 lY
  refine bodyPost_end (results_none rfl _ _ _) rfl ?_
  refine ⟨rfl, w1, A3, c3, HW1.out, HV.out, rfl, ?_⟩
  exact ((((Below.refl YB w1).setCell (p := ⟨YB, i * 4, none⟩) (Nat.le_refl _) _).setCell (p := ⟨YB, i * 4 + 1, none⟩) (Nat.le_refl _) _).setCell (p := ⟨YB, i * 4 + 2, none⟩) (Nat.le_refl _) _).setCell (p := ⟨YB, i * 4 + 3, none⟩) (Nat.le_refl _) _
end Go.Proofs.Ytoddjdajjmcliaa
set_option linter.unusedVariables false
namespace Go.Sh
open Go.Val
/-- the fields that a Move has taken over, put back -/
def backA : List Fld → List V → List V → List V
  | f :: fl, x :: X, s => backA fl X (if 0 ≤ f.src then s.set f.src.toNat x else s)
  | _, _, s => s
/-- the fields that a Move has lost, put back -/
def backB : List Nat → List V → List V → List V
  | i :: l, x :: R, s => backB l R (s.set i x)
  | _, _, s => s
def backF (n : Nat) (fl : List Fld) (X : List V) (lost : List Nat) (R : List V) : List V := backB lost R (backA fl X (List.replicate n zeroV))
theorem backA_len : ∀ (fl : List Fld) (X s : List V), (backA fl X s).length = s.length
  | [], _, _ => rfl
  | _ :: _, [], _ => rfl
  | f :: fl, x :: X, s => by
    unfold backA
    rw [backA_len fl X]
    split
    · simp
    · rfl
theorem backB_len : ∀ (l : List Nat) (R s : List V), (backB l R s).length = s.length
  | [], _, _ => rfl
  | _ :: _, [], _ => rfl
  | i :: l, x :: R, s => by
    unfold backB
    rw [backB_len l R]
    simp
/-- one step more -/
theorem backA_snoc : ∀ (fl : List Fld) (X s : List V) (f : Fld) (x : V), fl.length = X.length → backA (fl ++ [f]) (X ++ [x]) s = if 0 ≤ f.src then (backA fl X s).set f.src.toNat x else backA fl X s
  | [], [], s, f, x, _ => rfl
  | _ :: _, [], _, _, _, h => by simp at h
  | [], _ :: _, _, _, _, h => by simp at h
  | g :: fl, y :: X, s, f, x, h => by
    simp only [List.cons_append, backA]
    exact backA_snoc fl X _ f x (by simpa using h)
theorem backB_snoc : ∀ (l : List Nat) (R s : List V) (i : Nat) (x : V), l.length = R.length → backB (l ++ [i]) (R ++ [x]) s = (backB l R s).set i x
  | [], [], s, i, x, _ => rfl
  | _ :: _, [], _, _, _, h => by simp at h
  | [], _ :: _, _, _, _, h => by simp at h
  | g :: l, y :: R, s, i, x, h => by
    simp only [List.cons_append, backB]
    exact backB_snoc l R _ i x (by simpa using h)
end Go.Sh
namespace Go.Proofs.Ytoddjdajjmcliaa
open Go.RowKit Go.Mem Go.Sh Go.Maps Go.Val
/-- a row of values of one's own: its block, all the values' blocks lie behind it -/
def YRow (w : World) (YB n : Nat) (S : List V) : Prop := ∃ vss, Blk w YB 47 vss.flatten ∧ All2 (VCells 10 w (fun b => YB < b)) vss S ∧ S.length = n
theorem YRow.len {w : World} {YB n : Nat} {S : List V} (h : YRow w YB n S) : S.length = n := by obtain ⟨_, _, _, h⟩ := h; exact h
theorem YRow.blk {w : World} {YB n : Nat} {S : List V} (h : YRow w YB n S) : ∃ cs, Blk w YB 47 cs ∧ cs.length = n * 4 := by
  obtain ⟨vss, h1, h2, h3⟩ := h
  refine ⟨_, h1, ?_⟩
  have hl := h2.lens (VCells.stable 10)
  have e : ∀ l : List (List Value), (∀ c ∈ l, c.length = 4) → l.flatten.length = l.length * 4 := by
    intro l
    induction l with
    | nil => intro _; rfl
    | cons a r ih => intro h; rw [List.flatten_cons, List.length_append, h a (by simp), ih fun c hc => h c (by simp [hc]), List.length_cons, Nat.add_mul]; omega
  rw [e vss hl, h2.1, h3]
theorem YRow.below {w w' : World} {YB n : Nat} {S : List V} (h : YRow w YB n S) (hb : Below w.heap.size w w') : YRow w' YB n S := by
  obtain ⟨vss, h1, h2, h3⟩ := h
  exact ⟨vss, h1.below hb h1.lt, h2.imp fun x y hxy => (VCells.stable 10).keep hxy (Same.any hb), h3⟩
theorem YRow.rd {w : World} {YB n : Nat} {S : List V} (h : YRow w YB n S) (hn : n ≤ 1000) {D : Nat → Prop} (hD : ∀ b, YB ≤ b → D b) : VsRd 10 w D (some ⟨YB, 0, none⟩) n n S := by
  obtain ⟨cs, hc, hl⟩ := h.blk
  obtain ⟨vss, h1, h2, h3⟩ := h
  have e : cs = vss.flatten := by
    have h := Option.some.inj (hc.symm.trans h1)
    simpa using h
  subst e
  refine ⟨vss, h3.symm, hn, Nat.le_refl _, by unfold maxLen; omega, ?_, h2.imp fun x y hxy => (VCells.stable 10).imp hxy fun b hb _ => hD b (Nat.le_of_lt hb)⟩
  refine ⟨hl, fun _ => ⟨YB, 0, rfl, hD YB (Nat.le_refl _), fun k u hu => ?_⟩⟩
  have h := h1.cell (0 + k)
  rw [h, Nat.zero_add]
  exact hu
theorem YRow.put {w w1 w' : World} {YB n i : Nat} {S : List V} {A3 : Option Addr} {c3 : Nat} {x : V} (h : YRow w YB n S) (hi : i < n) (hb : Below w.heap.size w w1)
    (hv : VCells 10 w1 (fun b => w.heap.size ≤ b) [.int .i64 x.kind, .int .i64 x.num, .string x.text, .slice A3 x.args.length c3] x)
    (he : w'.heap = (setRow w1 YB (i * 4) [.int .i64 x.kind, .int .i64 x.num, .string x.text, .slice A3 x.args.length c3]).heap) : YRow w' YB n (S.set i x) := by
  have hlt : YB < w.heap.size := by obtain ⟨_, h1, _⟩ := h; exact h1.lt
  obtain ⟨vss, h1, h2, h3⟩ := h.below hb
  have hiv : i < vss.length := by have := h2.1; omega
  have hl := h2.lens (VCells.stable 10)
  generalize hcs : [Value.int .i64 x.kind, .int .i64 x.num, .string x.text, .slice A3 x.args.length c3] = cs at hv he
  have e : ∀ l : List (List Value), (∀ c ∈ l, c.length = 4) → l.flatten.length = l.length * 4 := by
    intro l
    induction l with
    | nil => intro _; rfl
    | cons a r ih => intro h; rw [List.flatten_cons, List.length_append, h a (by simp), ih fun c hc => h c (by simp [hc]), List.length_cons, Nat.add_mul]; omega
  have hpre : ((vss.take i).flatten).length = i * 4 := by
    rw [e _ fun c hc => hl c (List.mem_of_mem_take hc), List.length_take, Nat.min_eq_left (by omega)]
  have hsp : vss.flatten = (vss.take i).flatten ++ (vss[i] ++ (vss.drop (i + 1)).flatten) := by
    conv => lhs; rw [← List.take_append_drop i vss, List.flatten_append, List.drop_eq_getElem_cons hiv, List.flatten_cons]
  have hnew : (vss.set i cs).flatten = (vss.take i).flatten ++ (cs ++ (vss.drop (i + 1)).flatten) := by
    rw [List.set_eq_take_append_cons_drop, if_pos hiv, List.flatten_append, List.flatten_cons]
  have hsame : Same (fun b => YB < b) w1 w' := fun b hb _ => by
    rw [he]
    exact Go.Mem.setRow_heap (show b ≠ YB by have h : YB < b := hb; omega) _ _ _
  refine ⟨vss.set i cs, ?_, ⟨by simp [h2.1], fun k a y ha hy => ?_⟩, by simp [h3]⟩
  · rw [hsp] at h1
    have hq := setRow_mid cs (vss.take i).flatten vss[i] (vss.drop (i + 1)).flatten w1 h1 (by rw [hl _ (List.getElem_mem hiv), ← hcs]; rfl)
    rw [hpre] at hq
    rw [hnew]
    exact hq.of_heap he
  · by_cases hk : i = k
    · subst hk
      rw [List.getElem?_set_self (by omega)] at ha hy
      injection ha with ha
      injection hy with hy
      subst ha hy
      exact ((VCells.stable 10).imp hv fun b hb _ => by have h : w.heap.size ≤ b := hb; omega).keep hsame
    · rw [List.getElem?_set_ne hk] at ha hy
      exact (VCells.stable 10).keep (h2.2 k a y ha hy) hsame
theorem zero_cells (w : World) (D : Nat → Prop) : VCells 10 w D [.int .i64 0, .int .i64 0, .string ⟨#[]⟩, .slice none 0 0] zeroV :=
  vcells_of (d := 9) VsAt.nil ⟨by omega, by omega⟩ ⟨by omega, by omega⟩ (by show (0 : Nat) ≤ _; omega)
end Go.Proofs.Ytoddjdajjmcliaa
set_option linter.unusedVariables false
namespace Go.Proofs.Ytoddjdajjmcliaa
open Go.RowKit Go.Mem Go.Sh Go.Maps Go.Val
abbrev zcs : List Value := [.int .i64 0, .int .i64 0, .string ⟨#[]⟩, .slice none 0 0]
theorem rep_at : ∀ (n k : Nat), k < n * 4 → ((List.replicate n zcs).flatten)[k]? = zcs[k % 4]?
  | 0, k, h => by omega
  | n + 1, k, h => by
    rw [List.replicate_succ, List.flatten_cons]
    by_cases hk : k < 4
    · rw [List.getElem?_append_left (by simpa using hk), Nat.mod_eq_of_lt hk]
    · rw [List.getElem?_append_right (by simp; omega), show (zcs.length) = 4 from rfl, rep_at n (k - 4) (by omega)]
      congr 1
      omega
theorem rep_len (n : Nat) : ((List.replicate n zcs).flatten).length = n * 4 := by
  induction n with
  | zero => rfl
  | succ n ih => rw [List.replicate_succ, List.flatten_cons, List.length_append, ih, show zcs.length = 4 from rfl]; omega
theorem vals_made (n : Nat) : madeCells #[.int .i64 0, .int .i64 0, .string ⟨#[]⟩, .slice none 0 0] (n * 4) = ((List.replicate n zcs).flatten).toArray := by
  apply Array.ext'
  apply List.ext_getElem?
  intro k
  by_cases hk : k < n * 4
  · rw [rep_at n k hk]
    have h4 : k % 4 < 4 := Nat.mod_lt _ (by omega)
    rw [List.getElem?_eq_getElem (by simpa [size_madeCells] using hk)]
    simp only [madeCells, Array.toList_map, List.getElem_map]
    simp only [Array.toList_range, List.getElem_range]
    have hz : (#[Value.int .i64 0, .int .i64 0, .string ⟨#[]⟩, .slice none 0 0] : Array Value).size = 4 := rfl
    rw [hz]
    generalize k % 4 = j at h4
    match j, h4 with
    | 0, _ => rfl
    | 1, _ => rfl
    | 2, _ => rfl
    | 3, _ => rfl
  · rw [List.getElem?_eq_none (by simp [size_madeCells]; omega), List.getElem?_eq_none (by rw [rep_len]; omega)]
theorem YRow.zero {w : World} {YB n : Nat} (h : Blk w YB 47 (List.replicate n zcs).flatten) : YRow w YB n (List.replicate n zeroV) := by
  refine ⟨List.replicate n zcs, h, ⟨by simp, fun i x y h1 h2 => ?_⟩, by simp⟩
  have hi : i < n := by have := (List.getElem?_eq_some_iff.1 h1).1; simpa using this
  rw [List.getElem?_replicate, if_pos hi] at h1 h2
  injection h1 with h1
  injection h2 with h2
  subst h1 h2
  exact zero_cells _ _
theorem YRow.new (w : World) (n : Nat) : YRow (w.alloc (.cells (madeCells #[.int .i64 0, .int .i64 0, .string ⟨#[]⟩, .slice none 0 0] (n * 4)) 47)) w.heap.size n (List.replicate n zeroV) := by
  refine ⟨List.replicate n zcs, ?_, ⟨by simp, fun i x y h1 h2 => ?_⟩, by simp⟩
  · rw [vals_made]
    exact Blk.new _ _ _
  · have hi : i < n := by have := (List.getElem?_eq_some_iff.1 h1).1; simpa using this
    rw [List.getElem?_replicate, if_pos hi] at h1 h2
    injection h1 with h1
    injection h2 with h2
    subst h1 h2
    exact zero_cells _ _
end Go.Proofs.Ytoddjdajjmcliaa
set_option linter.unusedVariables false
namespace Go.Proofs.Ytoddjdajjmcliaa
open Go.RowKit Go.Mem Go.Sh Go.Maps Go.Val
theorem run_vals (n : Nat) (hn : n ≤ 1000) (w : World) : (Instr.makeSlice 45 (.int .i64 (n : Int)) (.int .i64 (n : Int))).run Try.prog w = .ok (.slice (some ⟨w.heap.size, 0, none⟩) n n) (w.alloc (.cells (madeCells #[.int .i64 0, .int .i64 0, .string ⟨#[]⟩, .slice none 0 0] (n * 4)) 47)) := by
  obtain ⟨i0, hi0, hz0, hz1, hz2⟩ := info_parts info_Vl
  have := run_make (P := Try.prog) w 45 47 i0 _ Try.underlying45 hi0 hz0 .i64 .i64 n n (by omega) (by omega) (by rw [hz2]; omega) (by omega)
  rw [this, hz1]
  simp [Value.cells]
set_option maxRecDepth 100000 in
set_option maxHeartbeats 16000000 in
theorem back_ok (w : World) (Xa : Option Addr) (xc : Nat) (X : List V) (Ia : Option Addr) (ic : Nat) (M : Option Addr) (cM n : Nat) (F : Option Addr) (nf cF : Nat) (Ls : Option Addr) (nl cL : Nat) (fl : List Fld) (lost : List Nat) (Ra : Option Addr) (rc : Nat) (R : List V) (hr : Reads w Any 4 M 1 [str [65], .int .i64 (n : Nat), .slice F nf cF, .slice Ls nl cL]) (hm : MoveAt w Any F nf cF Ls nl cL fl lost) (hok : MvOk n fl lost) (hX : VsRd 10 w Any Xa nf xc X) (hR : VsRd 10 w Any Ra nl rc R) :
    Calls Try.prog 25 #[.agg #[str [65], .slice Xa nf xc, .slice Ia 0 ic], .agg #[.slice M 1 cM], .slice Ra nl rc] w (TurnPost w (backF n fl X lost R)) := by
  have HE := Lib.hid (And.intro hr (And.intro hm (And.intro hok (And.intro hX hR))))
  have hnf := hm.hf.2.1
  have hnl := hm.hl.2.1
  have hn1 := hok.1
  clear hr hm hok hX hR
  go_enter Try.func25, Try.ntmps25
  go_upto_region 1 with (fail)
  obtain ⟨u1, hu1⟩ : ∃ u, u = w.alloc (.cells #[str [65], .slice Xa nf xc, .slice Ia 0 ic] 65) := ⟨_, rfl⟩
  have zu1 : u1.heap.size = w.heap.size + 1 := by rw [hu1]; simp
  have hbu1 : Below w.heap.size w u1 := by rw [hu1]; exact (Below.refl _ _).alloc (Nat.le_refl _) _
  have fSB : Blk u1 (w.heap.size) 65 [str [65], .slice Xa nf xc, .slice Ia 0 ic] := by rw [hu1]; have h := Blk.new w 65 [str [65], .slice Xa nf xc, .slice Ia 0 ic]; exact h
  obtain ⟨u2, hu2⟩ : ∃ u, u = u1.alloc (.cells #[.slice M 1 cM] 60) := ⟨_, rfl⟩
  have zu2 : u2.heap.size = w.heap.size + 1 + 1 := by rw [hu2]; simp [zu1]
  have hbu2 : Below w.heap.size w u2 := by rw [hu2]; exact hbu1.alloc hbu1.size _
  replace fSB := fSB.alloc (.cells #[.slice M 1 cM] 60)
  rw [← hu2] at fSB
  have fWB : Blk u2 (w.heap.size + 1) 60 [.slice M 1 cM] := by rw [hu2]; have h := Blk.new u1 60 [.slice M 1 cM]; rw [zu1] at h; exact h
  obtain ⟨u3, hu3⟩ : ∃ u, u = u2.alloc (.cells #[.string ⟨#[]⟩, .slice none 0 0, .slice none 0 0] 65) := ⟨_, rfl⟩
  have zu3 : u3.heap.size = w.heap.size + 1 + 1 + 1 := by rw [hu3]; simp [zu2]
  have hbu3 : Below w.heap.size w u3 := by rw [hu3]; exact hbu2.alloc hbu2.size _
  replace fSB := fSB.alloc (.cells #[.string ⟨#[]⟩, .slice none 0 0, .slice none 0 0] 65)
  rw [← hu3] at fSB
  replace fWB := fWB.alloc (.cells #[.string ⟨#[]⟩, .slice none 0 0, .slice none 0 0] 65)
  rw [← hu3] at fWB
  have fRB : Blk u3 (w.heap.size + 1 + 1) 65 [.string ⟨#[]⟩, .slice none 0 0, .slice none 0 0] := by rw [hu3]; have h := Blk.new u2 65 [.string ⟨#[]⟩, .slice none 0 0, .slice none 0 0]; rw [zu2] at h; exact h
  rw [← hu1, ← hu2, ← hu3]
  obtain ⟨RB, zRB⟩ : ∃ b, b = w.heap.size + 1 + 1 := ⟨_, rfl⟩
  obtain ⟨WB, zWB⟩ : ∃ b, b = w.heap.size + 1 := ⟨_, rfl⟩
  obtain ⟨SB, zSB⟩ : ∃ b, b = w.heap.size := ⟨_, rfl⟩
  rw [← zRB, ← zWB, ← zSB]
  rw [← zSB] at fSB
  rw [← zWB] at fWB
  rw [← zRB] at fRB
  clear hu1 hu2 hu3
  have HB := Lib.hid (And.intro hbu3 (And.intro fSB (And.intro fWB (And.intro fRB (show w.heap.size ≤ RB ∧ RB < u3.heap.size ∧ SB < u3.heap.size ∧ w.heap.size ≤ SB ∧ RB + 1 = u3.heap.size from ⟨by omega, by omega, by omega, by omega, by omega⟩)))))
  have c0 := fWB.cell 0
  have lw := fWB.lt
  have s0 := fSB.cell 0
  have s1 := fSB.cell 1
  have s2 := fSB.cell 2
  have ls := fSB.lt
  simp only [List.getElem?_cons_zero, List.getElem?_cons_succ] at c0 s0 s1 s2
  have CI := Lib.hid (find_ok u3 Xa nf xc Ia 0 ic M cM n F nf cF Ls nl cL fl lost (HE.out.1.keep (Same.any hbu3)) (HE.out.2.1.keep (Same.any hbu3)) HE.out.2.2.1)
  clear fSB fWB fRB zSB zWB zRB zu1 zu2 zu3 hbu1 hbu2 hbu3
  generalize u3 = W3 at *
  go_upto_region 2 with (go_at_call 38; refine CI.out.mono ?_; rintro e w4 ⟨rfl, hb4⟩; have HB4 := Lib.hid hb4; clear hb4)
  obtain ⟨W5, hW5⟩ : ∃ W5, W5 = w4.alloc (.cells #[str [65], .int .i64 (n : Nat), .slice F nf cF, .slice Ls nl cL] 99) := ⟨_, rfl⟩
  obtain ⟨MB, hMB⟩ : ∃ b, b = w4.heap.size := ⟨_, rfl⟩
  have hb5 : Below w4.heap.size w4 W5 := by rw [hW5]; exact (Below.refl _ _).alloc (Nat.le_refl _) _
  have fM := Blk.new w4 99 [str [65], .int .i64 (n : Nat), .slice F nf cF, .slice Ls nl cL]
  rw [← hW5, ← hMB] at fM
  rw [← hW5, ← hMB]
  have hb35 : Below W3.heap.size W3 W5 := HB4.out.trans (hb5.mono HB4.out.size)
  have fS := HB.out.2.1.below hb35 HB.out.2.1.lt
  have fR := HB.out.2.2.2.1.below hb35 HB.out.2.2.2.1.lt
  have q0 := fS.cell 0
  have q1 := fS.cell 1
  have q2 := fS.cell 2
  have m1 := fM.cell 1
  have m2 := fM.cell 2
  have m3 := fM.cell 3
  have lM := fM.lt
  have lS := fS.lt
  simp only [List.getElem?_cons_zero, List.getElem?_cons_succ] at q0 q1 q2 m1 m2 m3
  have hb05 := HB.out.1.trans (hb35.mono HB.out.1.size)
  have H5 := Lib.hid (And.intro hb05 (And.intro fS (And.intro fR fM)))
  have e1 : ((nf : Int) != (nf : Int)) = false := by simp
  have e2 : ((nl : Int) != (nl : Int)) = false := by simp
  have e3 : (nf != nf) = false := by simp
  have e4 : (nl != nl) = false := by simp
  clear fM fR fS c0 lw s0 s1 s2 ls hW5 hMB hb5 hb35 hb05
  go_upto_region 10 with (fail)
  clear e1 e2 e3 e4
  go_cut [10] (fun s10 wc => ∃ OB YB, s10 = .pointer (some ⟨OB, 0, none⟩) ∧ Hid (Blk wc OB 65 [str [65], .slice (some ⟨YB, 0, none⟩) n n, .slice none 0 0] ∧ YRow wc YB n (List.replicate n zeroV) ∧ Below W5.heap.size W5 wc ∧ W5.heap.size ≤ OB ∧ W5.heap.size ≤ YB ∧ OB ≠ YB))
  case first =>
    refine wp_region_g (S := fun w' => w'.cell? ⟨SB, 0, none⟩ = some (str [65]) ∧ w'.cell? ⟨MB, 1, none⟩ = some (.int .i64 (n : Nat))) (m := 7) (by kernel_rfl) ?_
    have hS : (World.drew W5).cell? ⟨SB, 0, none⟩ = some (str [65]) ∧ (World.drew W5).cell? ⟨MB, 1, none⟩ = some (.int .i64 (n : Nat)) := ⟨q0, m1⟩
    have hbD : Below W5.heap.size W5 (World.drew W5) := ⟨rfl, rfl, rfl, Nat.le_refl _, fun _ _ => rfl⟩
    have hsz : (World.drew W5).heap.size = W5.heap.size := rfl
    clear q0 q1 q2 m1 m2 m3 lM lS
    generalize World.drew W5 = W0 at *
    repeat (first
      | (refine wpAnyG_take (i := 0) (v := .pointer (some ⟨SB, 0, none⟩)) rfl ?_ ?_ ?_ (fun _ _ _ h => h) (Or.inl ⟨by rfl, ?_⟩) hS ?_; (· decide +kernel); (· decide +kernel); (· decide +kernel); (· (intro w' hS'; obtain ⟨hS1, hS2⟩ := hS'; go_simp)))
      | (refine wpAnyG_take (i := 1) (v := str [65]) rfl ?_ ?_ ?_ (fun _ _ _ h => h) (Or.inl ⟨by rfl, ?_⟩) hS ?_; (· decide +kernel); (· decide +kernel); (· decide +kernel); (· (intro w' hS'; obtain ⟨hS1, hS2⟩ := hS'; go_simp)))
      | (refine wpAnyG_take (i := 2) (v := .pointer (some ⟨MB, 1, none⟩)) rfl ?_ ?_ ?_ (fun _ _ _ h => h) (Or.inl ⟨by rfl, ?_⟩) hS ?_; (· decide +kernel); (· decide +kernel); (· decide +kernel); (· (intro w' hS'; obtain ⟨hS1, hS2⟩ := hS'; go_simp)))
      | (refine wpAnyG_take (i := 3) (v := .int .i64 (n : Nat)) rfl ?_ ?_ ?_ (fun _ _ _ h => h) (Or.inl ⟨by rfl, ?_⟩) hS ?_; (· decide +kernel); (· decide +kernel); (· decide +kernel); (· (intro w' hS'; obtain ⟨hS1, hS2⟩ := hS'; go_simp))))
    have lSB := lt_of_cell hS.1
    have lMB := lt_of_cell hS.2
    have HD0 := Lib.hid (And.intro hbD hsz)
    clear hbD hsz
    refine wpAnyG_ready (rs := [4, 6]) (by decide +kernel) (by simp) ?_
    refine AllReadyG.cons rfl (fun K hK => ?_) (AllReadyG.cons rfl (fun K hK => ?_) AllReadyG.nil)
    · skip
      have rv := run_vals n hn1 W0
      go_simp
      obtain ⟨V1, hV1⟩ : ∃ V, V = W0.alloc (.cells (madeCells #[.int .i64 0, .int .i64 0, .string ⟨#[]⟩, .slice none 0 0] (n * 4)) 47) := ⟨_, rfl⟩
      obtain ⟨YB, hYB⟩ : ∃ b, b = W0.heap.size := ⟨_, rfl⟩
      have fY : Blk V1 YB 47 (List.replicate n zcs).flatten := by rw [hV1, hYB, vals_made]; exact Blk.new _ _ _
      have hbV1 : Below W0.heap.size W0 V1 := by rw [hV1]; exact (Below.refl _ _).alloc (Nat.le_refl _) _
      rw [← hV1, ← hYB]
      have HYB := Lib.hid (show W0.heap.size ≤ YB ∧ YB < V1.heap.size ∧ W0.heap.size = YB from ⟨by rw [hYB]; exact Nat.le_refl _, fY.lt, hYB.symm⟩)
      clear rv hV1 hYB
      have hV1S : V1.cell? ⟨SB, 0, none⟩ = some (str [65]) ∧ V1.cell? ⟨MB, 1, none⟩ = some (.int .i64 (n : Nat)) := ⟨(hbV1.cell (p := ⟨SB, 0, none⟩) lSB).trans hS.1, (hbV1.cell (p := ⟨MB, 1, none⟩) lMB).trans hS.2⟩
      refine hK _ _ (fun _ => hV1S) ?_
      clear hK K
      repeat (first
            | (refine wpAnyG_take (i := 5) (v := .agg #[str [65], .slice (some ⟨YB, 0, none⟩) n n, .slice none 0 0]) rfl ?_ ?_ ?_ (fun _ _ _ h => h) (Or.inl ⟨by rfl, ?_⟩) hV1S ?_; (· decide +kernel); (· decide +kernel); (· decide +kernel); (· (intro w' hS'; obtain ⟨hS1, hS2⟩ := hS'; go_simp))))
      refine wpAnyG_ready (rs := [6]) (by decide +kernel) (by simp) ?_
      refine AllReadyG.cons rfl (fun K hK => ?_) AllReadyG.nil
      go_simp
      obtain ⟨V2, hV2⟩ : ∃ V, V = V1.alloc (.cells #[.string ⟨#[]⟩, .slice none 0 0, .slice none 0 0] 65) := ⟨_, rfl⟩
      obtain ⟨OB, hOB⟩ : ∃ b, b = V1.heap.size := ⟨_, rfl⟩
      have fO : Blk V2 OB 65 [.string ⟨#[]⟩, .slice none 0 0, .slice none 0 0] := by rw [hV2, hOB]; exact Blk.new _ _ _
      have hbV2 : Below W0.heap.size W0 V2 := by rw [hV2]; exact hbV1.alloc hbV1.size _
      rw [← hV2, ← hOB]
      replace fY := fY.alloc (.cells #[.string ⟨#[]⟩, .slice none 0 0, .slice none 0 0] 65)
      rw [← hV2] at fY
      have HOB := Lib.hid (show W0.heap.size ≤ OB ∧ OB < V2.heap.size ∧ V1.heap.size = OB from ⟨by rw [hOB]; exact hbV1.size, fO.lt, hOB.symm⟩)
      clear hV2 hOB
      have hV2S : V2.cell? ⟨SB, 0, none⟩ = some (str [65]) ∧ V2.cell? ⟨MB, 1, none⟩ = some (.int .i64 (n : Nat)) := ⟨(hbV2.cell (p := ⟨SB, 0, none⟩) lSB).trans hS.1, (hbV2.cell (p := ⟨MB, 1, none⟩) lMB).trans hS.2⟩
      refine hK _ _ (fun _ => hV2S) ?_
      clear hK K
      have hO5 : W5.heap.size ≤ OB := by have := HD0.out.2; have := HOB.out.1; omega
      have hY5 : W5.heap.size ≤ YB := by have := HD0.out.2; have := HYB.out.1; omega
      have hne : OB ≠ YB := by have := HOB.out.2.2; have := HYB.out.2.1; omega
      have o0 := fO.cell 0
      have o1 := fO.cell 1
      have o2 := fO.cell 2
      have p0 := fO.frozen 0
      have p1 := fO.frozen 1
      have p2 := fO.frozen 2
      have lO := fO.lt
      simp only [List.getElem?_cons_zero, List.getElem?_cons_succ] at o0 o1 o2
      refine wpAnyG_ready (rs := [7]) (by decide +kernel) (by simp) ?_
      refine AllReadyG.cons rfl (fun K hK => ?_) AllReadyG.nil
      go_simp
      refine hK _ _ (fun h => absurd h (by decide)) ?_
      clear hK K
      refine wpAnyG_done (by decide +kernel) ?_ _
      have fin : Hid (Blk (((V2.setCell ⟨OB, 0, none⟩ (str [65])).setCell ⟨OB, 1, none⟩ (.slice (some ⟨YB, 0, none⟩) n n)).setCell ⟨OB, 2, none⟩ (.slice none 0 0)) OB 65 [str [65], .slice (some ⟨YB, 0, none⟩) n n, .slice none 0 0] ∧ YRow (((V2.setCell ⟨OB, 0, none⟩ (str [65])).setCell ⟨OB, 1, none⟩ (.slice (some ⟨YB, 0, none⟩) n n)).setCell ⟨OB, 2, none⟩ (.slice none 0 0)) YB n (List.replicate n zeroV) ∧ Below W5.heap.size W5 (((V2.setCell ⟨OB, 0, none⟩ (str [65])).setCell ⟨OB, 1, none⟩ (.slice (some ⟨YB, 0, none⟩) n n)).setCell ⟨OB, 2, none⟩ (.slice none 0 0)) ∧ W5.heap.size ≤ OB ∧ W5.heap.size ≤ YB ∧ OB ≠ YB) := by
        have hbV2' := HD0.out.1.trans ((hbV2.mono (Nat.le_of_eq rfl)).mono (Nat.le_of_eq HD0.out.2.symm))
        refine ⟨((fO.put 0 (str [65])).put 1 (.slice (some ⟨YB, 0, none⟩) n n)).put 2 (.slice none 0 0), YRow.zero (((fY.far (p := ⟨OB, 0, none⟩) (Ne.symm hne) _).far (p := ⟨OB, 1, none⟩) (Ne.symm hne) _).far (p := ⟨OB, 2, none⟩) (Ne.symm hne) _), ((hbV2'.setCell (p := ⟨OB, 0, none⟩) hO5 _).setCell (p := ⟨OB, 1, none⟩) hO5 _).setCell (p := ⟨OB, 2, none⟩) hO5 _, hO5, hY5, hne⟩
      clear o0 o1 o2 p0 p1 p2 lO fO fY hbV1 hbV2 hS
      go_wp2_with (fail)
      go_meet
      exact ⟨OB, YB, rfl, fin⟩
    · skip
      go_simp
      obtain ⟨V1, hV1⟩ : ∃ V, V = W0.alloc (.cells #[.string ⟨#[]⟩, .slice none 0 0, .slice none 0 0] 65) := ⟨_, rfl⟩
      obtain ⟨OB, hOB⟩ : ∃ b, b = W0.heap.size := ⟨_, rfl⟩
      have fO : Blk V1 OB 65 [.string ⟨#[]⟩, .slice none 0 0, .slice none 0 0] := by rw [hV1, hOB]; exact Blk.new _ _ _
      have hbV1 : Below W0.heap.size W0 V1 := by rw [hV1]; exact (Below.refl _ _).alloc (Nat.le_refl _) _
      rw [← hV1, ← hOB]
      have HOB := Lib.hid (show W0.heap.size ≤ OB ∧ OB < V1.heap.size ∧ W0.heap.size = OB from ⟨by rw [hOB]; exact Nat.le_refl _, fO.lt, hOB.symm⟩)
      clear hV1 hOB
      have hV1S : V1.cell? ⟨SB, 0, none⟩ = some (str [65]) ∧ V1.cell? ⟨MB, 1, none⟩ = some (.int .i64 (n : Nat)) := ⟨(hbV1.cell (p := ⟨SB, 0, none⟩) lSB).trans hS.1, (hbV1.cell (p := ⟨MB, 1, none⟩) lMB).trans hS.2⟩
      refine hK _ _ (fun _ => hV1S) ?_
      clear hK K
      refine wpAnyG_ready (rs := [4]) (by decide +kernel) (by simp) ?_
      refine AllReadyG.cons rfl (fun K hK => ?_) AllReadyG.nil
      have rv := run_vals n hn1 V1
      go_simp
      obtain ⟨V2, hV2⟩ : ∃ V, V = V1.alloc (.cells (madeCells #[.int .i64 0, .int .i64 0, .string ⟨#[]⟩, .slice none 0 0] (n * 4)) 47) := ⟨_, rfl⟩
      obtain ⟨YB, hYB⟩ : ∃ b, b = V1.heap.size := ⟨_, rfl⟩
      have fY : Blk V2 YB 47 (List.replicate n zcs).flatten := by rw [hV2, hYB, vals_made]; exact Blk.new _ _ _
      have hbV2 : Below W0.heap.size W0 V2 := by rw [hV2]; exact hbV1.alloc hbV1.size _
      rw [← hV2, ← hYB]
      replace fO := fO.alloc (.cells (madeCells #[.int .i64 0, .int .i64 0, .string ⟨#[]⟩, .slice none 0 0] (n * 4)) 47)
      rw [← hV2] at fO
      have HYB := Lib.hid (show W0.heap.size ≤ YB ∧ YB < V2.heap.size ∧ V1.heap.size = YB from ⟨by rw [hYB]; exact hbV1.size, fY.lt, hYB.symm⟩)
      clear rv hV2 hYB
      have hV2S : V2.cell? ⟨SB, 0, none⟩ = some (str [65]) ∧ V2.cell? ⟨MB, 1, none⟩ = some (.int .i64 (n : Nat)) := ⟨(hbV2.cell (p := ⟨SB, 0, none⟩) lSB).trans hS.1, (hbV2.cell (p := ⟨MB, 1, none⟩) lMB).trans hS.2⟩
      refine hK _ _ (fun _ => hV2S) ?_
      clear hK K
      repeat (first
            | (refine wpAnyG_take (i := 5) (v := .agg #[str [65], .slice (some ⟨YB, 0, none⟩) n n, .slice none 0 0]) rfl ?_ ?_ ?_ (fun _ _ _ h => h) (Or.inl ⟨by rfl, ?_⟩) hV2S ?_; (· decide +kernel); (· decide +kernel); (· decide +kernel); (· (intro w' hS'; obtain ⟨hS1, hS2⟩ := hS'; go_simp))))
      have hO5 : W5.heap.size ≤ OB := by have := HD0.out.2; have := HOB.out.1; omega
      have hY5 : W5.heap.size ≤ YB := by have := HD0.out.2; have := HYB.out.1; omega
      have hne : OB ≠ YB := by have := HYB.out.2.2; have := HOB.out.2.1; omega
      have o0 := fO.cell 0
      have o1 := fO.cell 1
      have o2 := fO.cell 2
      have p0 := fO.frozen 0
      have p1 := fO.frozen 1
      have p2 := fO.frozen 2
      have lO := fO.lt
      simp only [List.getElem?_cons_zero, List.getElem?_cons_succ] at o0 o1 o2
      refine wpAnyG_ready (rs := [7]) (by decide +kernel) (by simp) ?_
      refine AllReadyG.cons rfl (fun K hK => ?_) AllReadyG.nil
      go_simp
      refine hK _ _ (fun h => absurd h (by decide)) ?_
      clear hK K
      refine wpAnyG_done (by decide +kernel) ?_ _
      have fin : Hid (Blk (((V2.setCell ⟨OB, 0, none⟩ (str [65])).setCell ⟨OB, 1, none⟩ (.slice (some ⟨YB, 0, none⟩) n n)).setCell ⟨OB, 2, none⟩ (.slice none 0 0)) OB 65 [str [65], .slice (some ⟨YB, 0, none⟩) n n, .slice none 0 0] ∧ YRow (((V2.setCell ⟨OB, 0, none⟩ (str [65])).setCell ⟨OB, 1, none⟩ (.slice (some ⟨YB, 0, none⟩) n n)).setCell ⟨OB, 2, none⟩ (.slice none 0 0)) YB n (List.replicate n zeroV) ∧ Below W5.heap.size W5 (((V2.setCell ⟨OB, 0, none⟩ (str [65])).setCell ⟨OB, 1, none⟩ (.slice (some ⟨YB, 0, none⟩) n n)).setCell ⟨OB, 2, none⟩ (.slice none 0 0)) ∧ W5.heap.size ≤ OB ∧ W5.heap.size ≤ YB ∧ OB ≠ YB) := by
        have hbV2' := HD0.out.1.trans ((hbV2.mono (Nat.le_of_eq rfl)).mono (Nat.le_of_eq HD0.out.2.symm))
        refine ⟨((fO.put 0 (str [65])).put 1 (.slice (some ⟨YB, 0, none⟩) n n)).put 2 (.slice none 0 0), YRow.zero (((fY.far (p := ⟨OB, 0, none⟩) (Ne.symm hne) _).far (p := ⟨OB, 1, none⟩) (Ne.symm hne) _).far (p := ⟨OB, 2, none⟩) (Ne.symm hne) _), ((hbV2'.setCell (p := ⟨OB, 0, none⟩) hO5 _).setCell (p := ⟨OB, 1, none⟩) hO5 _).setCell (p := ⟨OB, 2, none⟩) hO5 _, hO5, hY5, hne⟩
      clear o0 o1 o2 p0 p1 p2 lO fO fY hbV1 hbV2 hS
      go_wp2_with (fail)
      go_meet
      exact ⟨OB, YB, rfl, fin⟩
  case rest =>
    obtain ⟨OB, YB, rfl, hcut⟩ := hcut
    have HC := Lib.hid hcut.out
    have fM := H5.out.2.2.2.below HC.out.2.2.1 H5.out.2.2.2.lt
    have m2 := fM.cell 2
    have lM := fM.lt
    simp only [List.getElem?_cons_zero, List.getElem?_cons_succ] at m2
    clear hcut q0 q1 q2 m1 m3 lS fM
    go_wp2_with (fail)
    clear m2 lM
    go_loopw [60] (fun v wr => ∃ k : Nat, k ≤ nf ∧ v = .int .i64 (k : Nat) ∧ Hid (Below W5.heap.size W5 wr ∧ Blk wr OB 65 [str [65], .slice (some ⟨YB, 0, none⟩) n n, .slice none 0 0]) ∧ Hid (YRow wr YB n (backA (fl.take k) (X.take k) (List.replicate n zeroV)))) (fun v _ => nf - (intOf v).toNat)
    case atStart => exact ⟨0, Nat.zero_le _, rfl, ⟨HC.out.2.2.1, HC.out.1⟩, HC.out.2.1⟩
    case round =>
      obtain ⟨k, hk, rfl, HF, HY⟩ := hrel
      by_cases hlt : k < nf
      · have hb0 := H5.out.1.trans (HF.out.1.mono H5.out.1.size)
        obtain ⟨vss, hfr, hfa⟩ := HE.out.2.1.fr
        have hkl : k < fl.length := by have := HE.out.2.1.hf.1; omega
        obtain ⟨b1, o1, cs, rfl, hD, ⟨A4, c4, rfl, hv, _⟩, hcell⟩ := (hfr.keep (Same.any hb0)).elem FdCells.stable (hfa.imp fun x y hxy => FdCells.stable.keep hxy (Same.any hb0)) HE.out.2.1.hf.1 hkl
        have hsrc := HE.out.2.2.1.2.1 fl[k] (List.getElem_mem hkl)
        have hkX : k < X.length := by obtain ⟨_, h1, _⟩ := HE.out.2.2.2.1; omega
        have htk : Hid (backA (fl.take (k + 1)) (X.take (k + 1)) (List.replicate n zeroV) = if 0 ≤ fl[k].src then (backA (fl.take k) (X.take k) (List.replicate n zeroV)).set fl[k].src.toNat X[k] else backA (fl.take k) (X.take k) (List.replicate n zeroV)) := by
          unfold Hid
          rw [List.take_succ_eq_append_getElem hkl, List.take_succ_eq_append_getElem hkX]
          exact backA_snoc _ _ _ _ _ (by simp; omega)
        generalize fl[k] = f at hcell hv hsrc htk
        obtain ⟨fs, fv⟩ := f
        obtain ⟨xk, xn, xt, xa⟩ := fv
        simp only [V.kind, V.num, V.text, V.args] at hcell hv hsrc htk
        have g0 := hcell 0 _ rfl
        have g1 := hcell 1 _ rfl
        have g2 := hcell 2 _ rfl
        have g3 := hcell 3 _ rfl
        have g4 := hcell 4 _ rfl
        simp only [Nat.add_zero, ← Nat.add_assoc] at g0 g1 g2 g3 g4
        have l4 := lt_of_cell g0
        clear hcell hv hfr hfa
        rcases hsrc with rfl | ⟨hs0, hs1⟩
        · rw [if_neg (by omega)] at htk
          go_wp2_with (fail)
          exact ⟨⟨k + 1, by omega, by go_num, ⟨HF.out.1.alloc HF.out.1.size _, HF.out.2.alloc _⟩, by rw [htk.out]; exact HY.out.below ((Below.refl _ _).alloc (Nat.le_refl _) _)⟩, by simp [intOf]; omega⟩
        · obtain ⟨j, rfl⟩ : ∃ j : Nat, fs = (j : Nat) := ⟨fs.toNat, by omega⟩
          have hjn : j < n := by omega
          rw [if_pos hs0, Int.toNat_natCast] at htk
          obtain ⟨b2, o2, A8, c8, rfl, _, hzv, p0, p1, p2, p3⟩ := (HE.out.2.2.2.1.keep (Same.any hb0)).elem hlt hkX
          generalize X[k] = z at hzv p0 p1 p2 p3 htk
          obtain ⟨zk, zn, zt, za⟩ := z
          simp only [V.kind, V.num, V.text, V.args] at hzv p0 p1 p2 p3
          have l5 := lt_of_cell p0
          have fS := H5.out.2.1.below HF.out.1 H5.out.2.1.lt
          have s1x := fS.cell 1
          have lsx := fS.lt
          simp only [List.getElem?_cons_zero, List.getElem?_cons_succ] at s1x
          have i0 : decide ((0 : Int) ≤ (j : Int)) = true := by simp
          have i1 : (0 : Int) ≤ (k : Int) := by omega
          have i2 : (k : Int) < (nf : Int) := by omega
          clear fS hs0 hs1
          go_upto_region 16 with (fail)
          have HZ := Lib.hid hzv
          obtain ⟨W6, hW6⟩ : ∃ W, W = wr.alloc (.cells #[.int .i64 (j : Nat), .int .i64 xk, .int .i64 xn, .string xt, .slice A4 xa.length c4] 104) := ⟨_, rfl⟩
          obtain ⟨FB, hFB⟩ : ∃ b, b = wr.heap.size := ⟨_, rfl⟩
          have fF : Blk W6 FB 104 [.int .i64 (j : Nat), .int .i64 xk, .int .i64 xn, .string xt, .slice A4 xa.length c4] := by rw [hW6, hFB]; exact Blk.new _ _ _
          have hb6 : Below wr.heap.size wr W6 := by rw [hW6]; exact (Below.refl _ _).alloc (Nat.le_refl _) _
          rw [← hW6, ← hFB]
          refine wp_region_g (S := fun w' => w'.cell? ⟨FB, 0, none⟩ = some (.int .i64 (j : Nat)) ∧ w'.cell? ⟨SB, 1, none⟩ = some (.slice (some ⟨b2, o2, none⟩) nf xc) ∧ w'.cell? ⟨b2, o2 + k * 4, none⟩ = some (.int .i64 zk) ∧ w'.cell? ⟨b2, o2 + k * 4 + 1, none⟩ = some (.int .i64 zn) ∧ w'.cell? ⟨b2, o2 + k * 4 + 2, none⟩ = some (.string zt) ∧ w'.cell? ⟨b2, o2 + k * 4 + 3, none⟩ = some (.slice A8 za.length c8)) (m := 8) (by kernel_rfl) ?_
          have hS : (World.drew W6).cell? ⟨FB, 0, none⟩ = some (.int .i64 (j : Nat)) ∧ (World.drew W6).cell? ⟨SB, 1, none⟩ = some (.slice (some ⟨b2, o2, none⟩) nf xc) ∧ (World.drew W6).cell? ⟨b2, o2 + k * 4, none⟩ = some (.int .i64 zk) ∧ (World.drew W6).cell? ⟨b2, o2 + k * 4 + 1, none⟩ = some (.int .i64 zn) ∧ (World.drew W6).cell? ⟨b2, o2 + k * 4 + 2, none⟩ = some (.string zt) ∧ (World.drew W6).cell? ⟨b2, o2 + k * 4 + 3, none⟩ = some (.slice A8 za.length c8) := ⟨fF.cell 0, (hb6.cell (p := ⟨SB, 1, none⟩) lsx).trans s1x, (hb6.cell (p := ⟨b2, o2 + k * 4, none⟩) l5).trans p0, (hb6.cell (p := ⟨b2, o2 + k * 4 + 1, none⟩) l5).trans p1, (hb6.cell (p := ⟨b2, o2 + k * 4 + 2, none⟩) l5).trans p2, (hb6.cell (p := ⟨b2, o2 + k * 4 + 3, none⟩) l5).trans p3⟩
          have HD := Lib.hid (show Below wr.heap.size wr (World.drew W6) from ⟨hb6.os, hb6.tape, hb6.output, hb6.size, hb6.block⟩)
          clear hW6 hFB fF hb6 g0 g1 g2 g3 g4 l4 p0 p1 p2 p3 l5 s1x lsx hzv
          generalize World.drew W6 = W0 at *
          repeat (first
            | (refine wpAnyG_take (i := 0) (v := .func (.func 39) #[] #[.pointer (some ⟨OB, 0, none⟩)]) rfl ?_ ?_ ?_ (fun _ _ _ h => h) (Or.inl ⟨by rfl, ?_⟩) hS ?_; (· decide +kernel); (· decide +kernel); (· decide +kernel); (· (intro w' hS'; obtain ⟨t1, t2, t3, t4, t5, t6⟩ := hS'; go_simp)))
            | (refine wpAnyG_take (i := 1) (v := .pointer (some ⟨FB, 0, none⟩)) rfl ?_ ?_ ?_ (fun _ _ _ h => h) (Or.inl ⟨by rfl, ?_⟩) hS ?_; (· decide +kernel); (· decide +kernel); (· decide +kernel); (· (intro w' hS'; obtain ⟨t1, t2, t3, t4, t5, t6⟩ := hS'; go_simp)))
            | (refine wpAnyG_take (i := 2) (v := .int .i64 (j : Nat)) rfl ?_ ?_ ?_ (fun _ _ _ h => h) (Or.inl ⟨by rfl, ?_⟩) hS ?_; (· decide +kernel); (· decide +kernel); (· decide +kernel); (· (intro w' hS'; obtain ⟨t1, t2, t3, t4, t5, t6⟩ := hS'; go_simp)))
            | (refine wpAnyG_take (i := 3) (v := .pointer (some ⟨SB, 1, none⟩)) rfl ?_ ?_ ?_ (fun _ _ _ h => h) (Or.inl ⟨by rfl, ?_⟩) hS ?_; (· decide +kernel); (· decide +kernel); (· decide +kernel); (· (intro w' hS'; obtain ⟨t1, t2, t3, t4, t5, t6⟩ := hS'; go_simp)))
            | (refine wpAnyG_take (i := 4) (v := .slice (some ⟨b2, o2, none⟩) nf xc) rfl ?_ ?_ ?_ (fun _ _ _ h => h) (Or.inl ⟨by rfl, ?_⟩) hS ?_; (· decide +kernel); (· decide +kernel); (· decide +kernel); (· (intro w' hS'; obtain ⟨t1, t2, t3, t4, t5, t6⟩ := hS'; go_simp)))
            | (refine wpAnyG_take (i := 5) (v := .int .i64 (k : Nat)) rfl ?_ ?_ ?_ (fun _ _ _ h => h) (Or.inl ⟨by rfl, ?_⟩) hS ?_; (· decide +kernel); (· decide +kernel); (· decide +kernel); (· (intro w' hS'; obtain ⟨t1, t2, t3, t4, t5, t6⟩ := hS'; go_simp)))
            | (refine wpAnyG_take (i := 6) (v := .pointer (some ⟨b2, o2 + k * 4, none⟩)) rfl ?_ ?_ ?_ (fun _ _ _ h => h) (Or.inl ⟨by rfl, ?_⟩) hS ?_; (· decide +kernel); (· decide +kernel); (· decide +kernel); (· (intro w' hS'; obtain ⟨t1, t2, t3, t4, t5, t6⟩ := hS'; go_simp)))
            | (refine wpAnyG_take (i := 7) (v := .agg #[.int .i64 zk, .int .i64 zn, .string zt, .slice A8 za.length c8]) rfl ?_ ?_ ?_ (fun _ _ _ h => h) (Or.inl ⟨by rfl, ?_⟩) hS ?_; (· decide +kernel); (· decide +kernel); (· decide +kernel); (· (intro w' hS'; obtain ⟨t1, t2, t3, t4, t5, t6⟩ := hS'; go_simp))))
          have lFB := lt_of_cell hS.1
          obtain ⟨cs, hcs, hcl⟩ := (HY.out.below HD.out).blk
          have PA := put_any W0 j n hjn hn1 (V.mk zk zn zt za) A8 c8 OB YB cs hcs hcl ((HF.out.2.below HD.out HF.out.2.lt).cell 1) (HZ.out.keep (Same.any HD.out))
          simp only [V.kind, V.num, V.text, V.args] at PA
          have HPA := Lib.hid PA
          clear PA hcs hcl
          refine wpAnyG_ready (rs := [8]) (by decide +kernel) (by simp) ?_
          refine AllReadyG.cons rfl (fun K hK => ?_) AllReadyG.nil
          go_simp
          refine HPA.out.mono ?_
          unfold PutPost
          rintro e w7 ⟨rfl, w1, A3, c3, hb1, hv3, he, hby⟩
          try dsimp only
          refine hK _ _ (fun h => absurd h (by decide)) ?_
          clear hK K
          refine wpAnyG_done (by decide +kernel) ?_ _
          have hc := HC.out.2.2.2
          have hY7 := (HY.out.below HD.out).put hjn hb1 hv3 he
          have hB7 : Below W5.heap.size W5 w7 := ((HF.out.1.trans (HD.out.mono HF.out.1.size)).trans (hb1.mono (HF.out.1.trans (HD.out.mono HF.out.1.size)).size)).trans (hby.mono hc.2.1)
          have hO7 : Blk w7 OB 65 [str [65], .slice (some ⟨YB, 0, none⟩) n n, .slice none 0 0] := by
            have h := (HF.out.2.below HD.out HF.out.2.lt).below hb1 (HF.out.2.below HD.out HF.out.2.lt).lt
            unfold Blk at h ⊢
            rw [he, Go.Mem.setRow_heap hc.2.2]
            exact h
          have HH := Lib.hid (And.intro hY7 (And.intro hB7 hO7))
          clear hY7 hB7 hO7 hb1 hv3 he hby hS lFB
          go_wp2_with (fail)
          exact ⟨⟨k + 1, by omega, by go_num, ⟨HH.out.2.1, HH.out.2.2⟩, by rw [htk.out]; exact HH.out.1⟩, by simp [intOf]; omega⟩
      · obtain rfl : k = nf := by omega
        have hY := HY.out
        rw [List.take_of_length_le (by have := HE.out.2.1.hf.1; omega), List.take_of_length_le (by obtain ⟨_, h1, _⟩ := HE.out.2.2.2.1; omega)] at hY
        have HY2 := Lib.hid hY
        have HF2 := HF
        have fM := H5.out.2.2.2.below HF.out.1 H5.out.2.2.2.lt
        have m3 := fM.cell 3
        have lM := fM.lt
        simp only [List.getElem?_cons_zero, List.getElem?_cons_succ] at m3
        clear hY HY HF fM hlt hk
        rename World => wo
        go_wp2_with (fail)
        clear m3 lM
        go_loopw [81] (fun v wr => ∃ k : Nat, k ≤ nl ∧ v = .int .i64 (k : Nat) ∧ Hid (Below W5.heap.size W5 wr ∧ Blk wr OB 65 [str [65], .slice (some ⟨YB, 0, none⟩) n n, .slice none 0 0]) ∧ Hid (YRow wr YB n (backB (lost.take k) (R.take k) (backA fl X (List.replicate n zeroV))))) (fun v _ => nl - (intOf v).toNat)
        case atStart => exact ⟨0, Nat.zero_le _, rfl, HF2.out, HY2.out⟩
        case round =>
          obtain ⟨k, hk, rfl, HF, HY⟩ := hrel
          by_cases hlt : k < nl
          · have hb0 := H5.out.1.trans (HF.out.1.mono H5.out.1.size)
            have hkl : k < lost.length := by have := HE.out.2.1.hl.1; omega
            have hkR : k < R.length := by obtain ⟨_, h1, _⟩ := HE.out.2.2.2.2; omega
            obtain ⟨b1, o1, u, rfl, _, hu, hc⟩ := (HE.out.2.1.lr.keep (Same.any hb0)).at_ hlt
            have hu2 : u = .int .i64 (lost[k] : Nat) := by
              have : (natsV lost)[k]? = some (.int .i64 (lost[k] : Nat)) := by simp [natsV, hkl]
              rw [this] at hu
              exact (Option.some.inj hu).symm
            subst hu2
            have hjn := HE.out.2.2.1.2.2 lost[k] (List.getElem_mem hkl)
            have htk : Hid (backB (lost.take (k + 1)) (R.take (k + 1)) (backA fl X (List.replicate n zeroV)) = (backB (lost.take k) (R.take k) (backA fl X (List.replicate n zeroV))).set lost[k] R[k]) := by
              unfold Hid
              rw [List.take_succ_eq_append_getElem hkl, List.take_succ_eq_append_getElem hkR]
              exact backB_snoc _ _ _ _ _ (by simp; omega)
            obtain ⟨b2, o2, A8, c8, rfl, _, hzv, p0, p1, p2, p3⟩ := (HE.out.2.2.2.2.keep (Same.any hb0)).elem hlt hkR
            generalize lost[k] = j at hc hjn htk
            generalize R[k] = z at hzv p0 p1 p2 p3 htk
            obtain ⟨zk, zn, zt, za⟩ := z
            simp only [V.kind, V.num, V.text, V.args] at hzv p0 p1 p2 p3
            have l5 := lt_of_cell p0
            have l1 := lt_of_cell hc
            have i1 : (0 : Int) ≤ (k : Int) := by omega
            have i2 : (k : Int) < (nl : Int) := by omega
            obtain ⟨cs, hcs, hcl⟩ := HY.out.blk
            have PA := put_any wr j n hjn hn1 (V.mk zk zn zt za) A8 c8 OB YB cs hcs hcl (HF.out.2.cell 1) hzv
            simp only [V.kind, V.num, V.text, V.args] at PA
            have HPA := Lib.hid PA
            clear PA hcs hcl hu hzv
            go_wp2_with (go_at_call 39; refine HPA.out.mono ?_; unfold PutPost; rintro e w7 ⟨rfl, w1, A3, c3, hb1, hv3, he, hby⟩; have HPP := Lib.hid (And.intro hb1 (And.intro hv3 (And.intro he hby))); clear hb1 hv3 he hby)
            have hc' := HC.out.2.2.2
            obtain ⟨hb1, hv3, he, hby⟩ := HPP.out
            have hY7 := HY.out.put hjn hb1 hv3 he
            have hB7 : Below W5.heap.size W5 w7 := (HF.out.1.trans (hb1.mono HF.out.1.size)).trans (hby.mono hc'.2.1)
            have hO7 : Blk w7 OB 65 [str [65], .slice (some ⟨YB, 0, none⟩) n n, .slice none 0 0] := by
              have h := HF.out.2.below hb1 HF.out.2.lt
              unfold Blk at h ⊢
              rw [he, Go.Mem.setRow_heap hc'.2.2]
              exact h
            exact ⟨⟨k + 1, by omega, by go_num, ⟨hB7, hO7⟩, by rw [htk.out]; exact hY7⟩, by simp [intOf]; omega⟩
          · obtain rfl : k = nl := by omega
            have hY := HY.out
            rw [List.take_of_length_le (by have := HE.out.2.1.hl.1; omega), List.take_of_length_le (by obtain ⟨_, h1, _⟩ := HE.out.2.2.2.2; omega)] at hY
            have hlB : (backF n fl X lost R).length = n := by unfold backF; rw [backB_len, backA_len]; simp
            have HYE := Lib.hid (And.intro (show YRow wr YB n (backF n fl X lost R) from hY) hlB)
            clear hY hlB HY
            have hb0 := H5.out.1.trans (HF.out.1.mono H5.out.1.size)
            have fR := H5.out.2.2.1.below HF.out.1 H5.out.2.2.1.lt
            have hO := HF.out.2
            have x0 := hO.cell 0
            have x1 := hO.cell 1
            have x2 := hO.cell 2
            have lO := hO.lt
            have r0 := fR.cell 0
            have r1 := fR.cell 1
            have r2 := fR.cell 2
            have z0 := fR.frozen 0
            have z1 := fR.frozen 1
            have z2 := fR.frozen 2
            have lR := fR.lt
            simp only [List.getElem?_cons_zero, List.getElem?_cons_succ] at x0 x1 x2 r0 r1 r2
            have HFR := Lib.hid (And.intro hb0 fR)
            clear hO fR hb0
            go_wp2_with (fail)
            have hz := HB.out.2.2.2.2.1
            have hB := ((HFR.out.2.put 0 (str [65])).put 1 (.slice (some ⟨YB, 0, none⟩) n n)).put 2 (.slice none 0 0)
            have hbe := ((HFR.out.1.setCell (p := ⟨RB, 0, none⟩) hz (str [65])).setCell (p := ⟨RB, 1, none⟩) hz (.slice (some ⟨YB, 0, none⟩) n n)).setCell (p := ⟨RB, 2, none⟩) hz (.slice none 0 0)
            refine ret_blk_tmp rfl rfl hB Try.underlying65 (by kernel_rfl) rfl ?_
            have hRB : RB < YB := by have h1 := H5.out.2.2.1.lt; have h2 := HC.out.2.2.2.2.1; omega
            have hv := HYE.out.1.rd hn1 (D := fun b => YB ≤ b) fun b h => h
            unfold TurnPost
            rw [HYE.out.2]
            refine ⟨⟨some ⟨YB, 0, none⟩, n, rfl, ?_⟩, hbe⟩
            refine (hv.keep fun b hb _ => ?_).imp fun b hb _ => by have h1 : YB ≤ b := hb; have h2 := H5.out.1.size; have h3 := HC.out.2.2.2.2.1; omega
            have hne : b ≠ RB := by have h1 : YB ≤ b := hb; omega
            rw [Below.heap_setCell _ _ _ _ hne, Below.heap_setCell _ _ _ _ hne, Below.heap_setCell _ _ _ _ hne]
end Go.Proofs.Ytoddjdajjmcliaa
