/- Words for the contract of the laws' helper valueFor. -/
import Derived.Test.YtoddjdajjmcliaaJShFirst
import Derived.Test.YtoddjdajjmcliaaShRepeat
import Derived.Test.YtoddjdajjmcliaaJLawNumS
import Derived.Deep.RegionHeld3
import Derived.Deep.CutBlock
set_option linter.unusedVariables false
namespace Go.Proofs.Ytoddjdajjmcliaa
open Go.RowKit Go.Mem Go.Sh Go.Maps Go.Val
/-- what valueFor hands back -/
def ValPost (dv : Nat) (w : World) (v : V) : Ending → World → Prop := fun e w' => Below w.heap.size w w' ∧ ∃ A c, e = .returned (.agg #[.int .i64 v.kind, .int .i64 v.num, .string v.text, .slice A v.args.length c]) ∧ VCells dv w' (fun b => w.heap.size ≤ b) (vl v A c) v
/-- numbers in memory -/
structure NsAt (w : World) (L : Option Addr) (n cl : Nat) (l : List Int) : Prop where
  hn : n = l.length
  hc : n ≤ cl ∧ cl ≤ maxLen
  hr : Reads w Any 1 L n (nums l)
  ok : ∀ x ∈ l, I64 x
theorem NsAt.keep {w w' : World} {L : Option Addr} {n cl : Nat} {l : List Int} (h : NsAt w L n cl l) (hk : Same Any w w') : NsAt w' L n cl l := ⟨h.hn, h.hc, h.hr.keep hk, h.ok⟩
def ValTo (f : Nat) : Prop := ∀ (d : Nat) (w : World) (p : Pg) (P : List Dt) (t : Ty) (A : Option Addr) (m c : Nat) (L : Option Addr) (n cl : Nat) (l : List Int) (deep : Nat) (v : V),
  DtsAt d w Any p.A p.n p.c P → TyAt d w Any t.kind t.name A m c t → NsAt w L n cl l → deep + f ≤ 1000 → Sh.valF P l f deep t = some v →
  Calls Try.prog 14 #[.agg p.cells.toArray, .agg #[.int .i64 (t.kind : Nat), str t.name, .slice A m c], .slice L n cl, .int .i64 (deep : Nat)] w (ValPost f w v)
theorem numAt_i64 {l : List Int} (h : ∀ x ∈ l, I64 x) (deep : Nat) : I64 (numAt l deep) := by
  unfold numAt
  rw [List.getD_eq_getElem?_getD]
  cases hx : l[deep]? with
  | none => exact ⟨by simp, by simp⟩
  | some x => exact h x (List.mem_of_getElem? hx)
theorem valF_of {P : List Dt} {l : List Int} {f deep k : Nat} {n : Nm} {ts : List Ty} : Sh.valF P l (f + 1) deep (.mk k n ts) =
    if k = 1 then some (.mk 2 (numAt l deep) ⟨#[]⟩ [])
    else if k = 2 then some (.mk 3 (restN (numAt l deep) 2) ⟨#[]⟩ [])
    else if k = 3 then some (.mk 4 0 (txt (List.replicate (restN (numAt l deep) 5).toNat 116)) [])
    else if k = 9 then match ts with
      | [] => none
      | a :: _ => (Sh.valF P l f (deep + 1) a).map fun v => .mk 8 0 ⟨#[]⟩ [v]
    else if k = 6 then match dataOf P n with
      | none => some (.mk 1 0 ⟨#[]⟩ [])
      | some D => if 0 < D.makes.length then match pickF D (numAt l deep) deep with
        | none => none
        | some m => (manyO (fun a => (argF (.mk k n ts) a).bind (Sh.valF P l f (deep + 1))) m.args).map fun vs => .mk 5 0 (txt m.name) vs
        else none
    else some (.mk 1 0 ⟨#[]⟩ []) := by
  conv => lhs; unfold Sh.valF
  rfl
theorem val_end {f : Nat} {w W' : World} {k n : Int} {t : ByteArray} (hb : Below w.heap.size w W') (hk : 0 ≤ k ∧ k ≤ 255) (hn : Fits64 n) (ht : t.size ≤ 4611686018427387904) : ValPost (f + 1) w (.mk k n t []) (.returned (.agg #[.int .i64 k, .int .i64 n, .string t, .slice none 0 0])) W' :=
  ⟨hb, none, 0, rfl, vcells_of (d := f) VsAt.nil hk hn ht⟩
theorem one_value {f : Nat} {W : World} {D : Nat → Prop} {vk vn : Int} {vt : ByteArray} {va : List V} {A : Option Addr} {c : Nat} (h : VCells f W D [.int .i64 vk, .int .i64 vn, .string vt, .slice A va.length c] (.mk vk vn vt va)) (hD : D W.heap.size) :
    VsAt f (W.alloc (.cells #[.int .i64 vk, .int .i64 vn, .string vt, .slice A va.length c] 47)) D (some ⟨W.heap.size, 0, none⟩) 1 1 [.mk vk vn vt va] :=
  ⟨[[.int .i64 vk, .int .i64 vn, .string vt, .slice A va.length c]], rfl, by omega, Nat.le_refl _, by unfold maxLen; omega, Reads.new W _ 4 1 _ D hD rfl, All2.cons_mk ((VCells.stable f).keep h (Same.alloc _ _ _)) All2.nil⟩
theorem cell_end {f : Nat} {w W' : World} {D : Nat → Prop} {X : Nat} {vk vn : Int} {vt : ByteArray} {va : List V} {A : Option Addr} {c : Nat} (hb : Below w.heap.size w W') (hX : W'.heap.size = X) (hv : VCells f W' D [.int .i64 vk, .int .i64 vn, .string vt, .slice A va.length c] (.mk vk vn vt va)) (hD : ∀ b, D b → w.heap.size ≤ b) (hwX : w.heap.size ≤ X) :
    ValPost (f + 1) w (.mk 8 0 ⟨#[]⟩ [.mk vk vn vt va]) (.returned (.agg #[.int .i64 8, .int .i64 0, .string ⟨#[]⟩, .slice (some ⟨X, 0, none⟩) 1 1])) (W'.alloc (.cells #[.int .i64 vk, .int .i64 vn, .string vt, .slice A va.length c] 47)) := by
  subst hX
  exact ⟨hb.alloc hb.size _, some ⟨W'.heap.size, 0, none⟩, 1, rfl, vcells_of (k := 8) (n := 0) (one_value (hv.imp fun b h _ => hD b h) hwX) ⟨by omega, by omega⟩ ⟨by omega, by omega⟩ (by show (0 : Nat) ≤ _; omega)⟩
theorem below_undrew {N : Nat} {w w' : World} (h : Below N w.drew w') : Below N w w' := ⟨h.os, h.tape, h.output, h.size, h.block⟩
theorem repeatT (q : Nat) : Lib.repeatL (⟨#[116]⟩ : ByteArray).data.toList q = List.replicate q 116 := by
  induction q with
  | zero => rfl
  | succ q ih =>
    unfold Lib.repeatL
    rw [ih]
    rfl
theorem manyO_drop {α β : Type} {g : α → Option β} {ts : List α} {j : Nat} {R : List β} (hj : j < ts.length) (h : manyO g (ts.drop j) = some R) : ∃ v R2, g ts[j] = some v ∧ manyO g (ts.drop (j + 1)) = some R2 ∧ R = v :: R2 := by
  rw [List.drop_eq_getElem_cons hj] at h
  unfold manyO at h
  cases hf : g ts[j] with
  | none => rw [hf] at h; cases h
  | some v =>
    rw [hf] at h
    cases hm : manyO g (ts.drop (j + 1)) with
    | none => rw [hm] at h; cases h
    | some R2 =>
      rw [hm] at h
      injection h with h
      exact ⟨v, R2, rfl, rfl, h.symm⟩
theorem manyO_end {α β : Type} {g : α → Option β} {ts : List α} {j : Nat} {R : List β} (hj : ts.length ≤ j) (h : manyO g (ts.drop j) = some R) : R = [] := by
  rw [List.drop_eq_nil_of_le hj] at h
  unfold manyO at h
  injection h with h
  exact h.symm
/-- append of values onto a row of the call's own, in a region that draws its order -/
theorem step_app_Vl (w : World) {ops : Array Oper} {o : Oper} {a : Act} {K : Act → World → Prop} {Q : Exit → Act → World → Prop} {E : Prop} (hgd : o.guard = none) (s x : Operand)
    (ho : o.op = .call { callee := .builtin .append, args := #[s, x], argTypes := #[45, 45] })
    {base : Nat} {v : Value} {n : Nat} {xs : List Value} (hown : w.ownsRow base 47 4 v n xs) (hs : a.eval s = v)
    {D : Nat → Prop} {A : Option Addr} {m : Nat} {news : List Value} (hr : Reads w D 4 A m news) {c : Nat} (hx : a.eval x = .slice A m c) (h1 : ∀ u ∈ news, u.oneCell' = true)
    (h63 : n + m ≤ 1099511627776) (hbase : base ≤ w.heap.size)
    (h : ∀ v' w', w'.ownsRow base 47 4 v' (n + m) (xs ++ news) → w.grownBy w' v.ownBlock → (v'.ownBlock = v.ownBlock ∨ v'.ownBlock = some w.heap.size) → K (a.put o.dst v') w') :
    if Region.wanted o (yielded ops a.tmps) = true then Oper.wp Try.prog o a w K Q else E := by
  obtain ⟨i0, hi0, hz0, hz1, hz2⟩ := info_parts info_Vl
  exact step_append_any w hgd s x _ ho base _ i0 _ 4 56 Try.underlying45 hi0 hz0 hz1 hz2 rfl (by omega) v n xs hs hown D A m c news hx hr h1 (by simp only [maxLen]; omega) (by omega) hbase h
/-- where the loop over a make's arguments stands -/
def ArgsAt (f : Nat) (w8 : World) (VB : Nat) (nm : Nm) (vs : List V) (g : Ty → Option V) (ts : List Ty) (wr : World) (k : Nat) : Prop :=
  ∃ (A : Option Addr) (c : Nat) (us : List V), us.length = k ∧ (∃ R, manyO g (ts.drop k) = some R ∧ vs = us ++ R) ∧ Blk wr VB 47 [.int .i64 5, .int .i64 0, str nm, .slice A k c] ∧ OwnList 47 4 (VCells f) wr (VB + 1) (.slice A k c) us ∧ Below w8.heap.size w8 wr
theorem args_step {f : Nat} {w8 w11 w1 w2 : World} {VB k : Nat} {nm : Nm} {vs R2 : List V} {g : Ty → Option V} {ts : List Ty} {A3 A5 A4 : Option Addr} {c3 c5 c4 : Nat} {us va : List V} {vk vn : Int} {vt : ByteArray} {vs1 : List (List Value)} {xs : List Value}
    (hlen : us.length = k) (hR2 : manyO g (ts.drop (k + 1)) = some R2) (hvs : vs = us ++ V.mk vk vn vt va :: R2) (hb8 : Below w8.heap.size w8 w11) (hVB : w8.heap.size ≤ VB ∧ VB + 1 ≤ w11.heap.size) (cv1 : Blk w1 VB 47 [.int .i64 5, .int .i64 0, str nm, .slice A3 k c3]) (hb1 : Below w11.heap.size w11 w1)
    (hv4 : VCells f w1 (fun b => w11.heap.size ≤ b) [.int .i64 vk, .int .i64 vn, .string vt, .slice A4 va.length c4] (.mk vk vn vt va)) (hol : ∀ b, (Value.slice A3 k c3).ownBlock = some b → VB + 1 ≤ b ∧ b < w11.heap.size)
    (ha1 : All2 (VCells f w1 (fun b => VB + 1 ≤ b ∧ (Value.slice A3 k c3).ownBlock ≠ some b)) vs1 us)
    (hown2 : w2.ownsRow (VB + 1) 47 4 (.slice A5 (us.length + 1) c5) (us.length + 1) (vs1.flatten ++ [.int .i64 vk, .int .i64 vn, .string vt, .slice A4 va.length c4]))
    (hg2 : (w1.alloc (.cells #[.int .i64 vk, .int .i64 vn, .string vt, .slice A4 va.length c4] 47)).grownBy w2 (Value.slice A3 k c3).ownBlock) (hat2 : (Value.slice A5 (us.length + 1) c5).ownBlock = (Value.slice A3 k c3).ownBlock ∨ (Value.slice A5 (us.length + 1) c5).ownBlock = some (w1.alloc (.cells #[.int .i64 vk, .int .i64 vn, .string vt, .slice A4 va.length c4] 47)).heap.size) :
    ArgsAt f w8 VB nm vs g ts (w2.setCell ⟨VB, 3, none⟩ (.slice A5 (us.length + 1) c5)) (k + 1) := by
  have hy : VCells f w1 (fun b => VB + 1 ≤ b ∧ (Value.slice A3 k c3).ownBlock ≠ some b) [.int .i64 vk, .int .i64 vn, .string vt, .slice A4 va.length c4] (.mk vk vn vt va) := hv4.imp fun b hb _ => ⟨by omega, fun e => by have := (hol b e).2; omega⟩
  have hp := OwnList.push (VCells.stable f) ha1 hy hg2 hat2 hown2
  have cv2 := (cv1.alloc (.cells #[.int .i64 vk, .int .i64 vn, .string vt, .slice A4 va.length c4] 47)).grown hg2 (fun e => by have := (hol _ e.symm).1; omega)
  have cv3 := cv2.put 3 (.slice A5 (us.length + 1) c5)
  have hb1' : Below w8.heap.size w8 (w1.alloc (.cells #[.int .i64 vk, .int .i64 vn, .string vt, .slice A4 va.length c4] 47)) := (hb8.trans (hb1.mono hb8.size)).alloc (by have h1 := hb8.size; have h2 := hb1.size; omega) _
  have hb2 : Below w8.heap.size w8 w2 := hb1'.grown hg2 (by have := hb1'.size; exact this) (fun b hb => by have := (hol b hb).1; omega)
  have hk : Same (fun b => VB + 1 ≤ b) w2 (w2.setCell ⟨VB, 3, none⟩ (.slice A5 (us.length + 1) c5)) := fun b hb _ => Below.heap_setCell w2 ⟨VB, 3, none⟩ _ b (by show b ≠ VB; omega)
  subst hlen
  exact ⟨A5, c5, us ++ [.mk vk vn vt va], by simp, ⟨R2, hR2, by rw [hvs]; simp⟩, cv3, hp.keep (VCells.stable f) hk, hb2.setCell (p := ⟨VB, 3, none⟩) hVB.1 _⟩
end Go.Proofs.Ytoddjdajjmcliaa
