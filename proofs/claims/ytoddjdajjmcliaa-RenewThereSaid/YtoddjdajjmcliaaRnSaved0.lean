/- Words for saved actors in memory. -/
import Derived.Test.YtoddjdajjmcliaaRnCopy
import Derived.Test.YtoddjdajjmcliaaRnShA
import Derived.Test.YtoddjdajjmcliaaShVfA
import Derived.Test.YtoddjdajjmcliaaJShCarLaw
set_option linter.unusedVariables false
namespace Go.Proofs.Ytoddjdajjmcliaa
open Go.RowKit Go.Mem Go.Sh Go.Maps Go.Val
/-- a row of values in memory -/
def VsRd (d : Nat) (w : World) (D : Nat → Prop) (A : Option Addr) (n c : Nat) (l : List V) : Prop := ∃ vss, n = l.length ∧ n ≤ 1000 ∧ n ≤ c ∧ c ≤ maxLen ∧ Reads w D 4 A n vss.flatten ∧ All2 (VCells d w D) vss l
section
variable {d : Nat} {w w' : World} {D D' : Nat → Prop} {A : Option Addr} {n c : Nat} {l : List V}
theorem VsRd.keep (h : VsRd d w D A n c l) (hk : Same D w w') : VsRd d w' D A n c l := by
  obtain ⟨vss, h1, h2, h3, h4, h5, h6⟩ := h
  exact ⟨vss, h1, h2, h3, h4, h5.keep hk, h6.imp fun x y hxy => hxy.keep hk⟩
theorem VsRd.imp (h : VsRd d w D A n c l) (hk : ∀ b, D b → b < w.heap.size → D' b) : VsRd d w D' A n c l := by
  obtain ⟨vss, h1, h2, h3, h4, h5, h6⟩ := h
  exact ⟨vss, h1, h2, h3, h4, h5.imp (by omega) hk, h6.imp fun x y hxy => hxy.imp hk⟩
/-- element k: its cells -/
theorem VsRd.elem (h : VsRd d w D A n c l) {k : Nat} (hk : k < n) (hl : k < l.length) : ∃ b off A' c', A = some ⟨b, off, none⟩ ∧ D b ∧ VCells d w D [.int .i64 l[k].kind, .int .i64 l[k].num, .string l[k].text, .slice A' l[k].args.length c'] l[k] ∧
    w.cell? ⟨b, off + k * 4, none⟩ = some (.int .i64 l[k].kind) ∧ w.cell? ⟨b, off + k * 4 + 1, none⟩ = some (.int .i64 l[k].num) ∧ w.cell? ⟨b, off + k * 4 + 2, none⟩ = some (.string l[k].text) ∧ w.cell? ⟨b, off + k * 4 + 3, none⟩ = some (.slice A' l[k].args.length c') := by
  obtain ⟨vss, h1, h2, h3, h4, h5, h6⟩ := h
  obtain ⟨b, off, cs, e, hD, hv, hc⟩ := h5.elem (VCells.stable d) h6 h1 hl
  obtain ⟨A', c', rfl⟩ := hv.form
  exact ⟨b, off, A', c', e, hD, hv, hc 0 _ rfl, by have := hc 1 _ rfl; rwa [← Nat.add_assoc] at this, by have := hc 2 _ rfl; rwa [← Nat.add_assoc] at this, by have := hc 3 _ rfl; rwa [← Nat.add_assoc] at this⟩
end
theorem VsRd.of_own {d : Nat} {w : World} {base n c : Nat} {A : Option Addr} {l : List V} (h : VsOwn' d w base (.slice A n c) l) (h1 : n ≤ 1000) : VsRd d w (fun b => base ≤ b) A n c l := by
  obtain ⟨vss, e1, e2, e3, hr, ha⟩ := h.reads (VCells.stable d) (by omega)
  exact ⟨vss, e1, h1, e2, e3, hr, ha⟩
/-- what savedFor hands back -/
def SvPost (w : World) (m : Nat) (S : List V) (e : Ending) (w' : World) : Prop := (∃ A c, e = .returned (.agg #[str [65], .slice A m c, .slice none 0 0]) ∧ VsRd 10 w' (fun b => w.heap.size ≤ b) A m c S) ∧ Below w.heap.size w w'
/-- the state of raw numbers -/
def stateF (P : List Dt) (l : List Int) (T : List Ty) (S : List V) : Prop := S.length = T.length ∧ ∀ (i : Nat) (t : Ty) (v : V), T[i]? = some t → S[i]? = some v → Sh.valF P (l.drop i) 10 0 t = some v
theorem stateF.snoc {P : List Dt} {l : List Int} {T : List Ty} {S : List V} {t : Ty} {v : V} (h : stateF P l T S) (hv : Sh.valF P (l.drop T.length) 10 0 t = some v) : stateF P l (T ++ [t]) (S ++ [v]) := by
  refine ⟨by simp [h.1], fun i u x h1 h2 => ?_⟩
  rcases Nat.lt_or_ge i T.length with hi | hi
  · rw [List.getElem?_append_left hi] at h1
    rw [List.getElem?_append_left (by rw [h.1]; exact hi)] at h2
    exact h.2 i u x h1 h2
  · rw [List.getElem?_append_right hi] at h1
    rw [List.getElem?_append_right (by rw [h.1]; exact hi), h.1] at h2
    have h0 : i - T.length = 0 := by
      rcases Nat.eq_zero_or_pos (i - T.length) with h0 | h0
      · exact h0
      · rw [List.getElem?_eq_none (by simp; omega)] at h1; cases h1
    rw [h0] at h1 h2
    simp at h1 h2
    subst h1 h2
    have : i = T.length := by omega
    rw [this]
    exact hv
theorem NsAt.drop {w : World} {L : Option Addr} {n cl : Nat} {l : List Int} (h : NsAt w L n cl l) (k : Nat) (A' : Option Addr) (hr : Reads w Any 1 A' (n - min n k) (nums (l.drop (min n k)))) (hc : n - min n k ≤ cl - min n k ∧ cl - min n k ≤ maxLen) : NsAt w A' (n - min n k) (cl - min n k) (l.drop k) := by
  have e : l.drop (min n k) = l.drop k := by
    rcases Nat.le_total n k with h1 | h1
    · rw [Nat.min_eq_left h1, List.drop_eq_nil_of_le (by rw [← h.hn]; exact Nat.le_refl _), List.drop_eq_nil_of_le (by rw [← h.hn]; exact h1)]
    · rw [Nat.min_eq_right h1]
  rw [e] at hr
  exact ⟨by rw [List.length_drop, ← h.hn]; omega, hc, hr, fun x hx => h.ok x (List.mem_of_mem_drop hx)⟩
/-- a saved actor on its way: its block, its row of values -/
def SvRow (w : World) (OB : Nat) (nm : Value) (k : Nat) (S : List V) : Prop := ∃ A3 c3, Blk w OB 65 [nm, .slice A3 k c3, .slice none 0 0] ∧ VsOwn' 10 w (OB + 1) (.slice A3 k c3) S ∧ S.length = k
theorem SvRow.step {w6 w1 w2 : World} {OB k : Nat} {nm : Value} {S : List V} {A3 A4 A5 : Option Addr} {c3 c4 c5 : Nat} {yk yn : Int} {yt : ByteArray} {ya : List V} {vs1 : List (List Value)}
    (hO : Blk w6 OB 65 [nm, .slice A3 k c3, .slice none 0 0]) (hown : VsOwn' 10 w6 (OB + 1) (.slice A3 k c3) S) (hk : S.length = k) (hb1 : Below w6.heap.size w6 w1)
    (hv4 : VCells 10 w1 (fun b => w6.heap.size ≤ b) [.int .i64 yk, .int .i64 yn, .string yt, .slice A4 ya.length c4] (V.mk yk yn yt ya))
    (ha1 : All2 (VCells 10 w1 (fun b => OB + 1 ≤ b ∧ (Value.slice A3 k c3).ownBlock ≠ some b)) vs1 S)
    (hown2 : w2.ownsRow (OB + 1) 47 4 (.slice A5 (k + 1) c5) (k + 1) (vs1.flatten ++ [.int .i64 yk, .int .i64 yn, .string yt, .slice A4 ya.length c4]))
    (hg2 : (w1.alloc (.cells #[.int .i64 yk, .int .i64 yn, .string yt, .slice A4 ya.length c4] 47)).grownBy w2 (Value.slice A3 k c3).ownBlock)
    (hat2 : (Value.slice A5 (k + 1) c5).ownBlock = (Value.slice A3 k c3).ownBlock ∨ (Value.slice A5 (k + 1) c5).ownBlock = some (w1.alloc (.cells #[.int .i64 yk, .int .i64 yn, .string yt, .slice A4 ya.length c4] 47)).heap.size) :
    SvRow (w2.setCell ⟨OB, 1, none⟩ (.slice A5 (k + 1) c5)) OB nm (k + 1) (S ++ [V.mk yk yn yt ya]) ∧ Below OB w6 (w2.setCell ⟨OB, 1, none⟩ (.slice A5 (k + 1) c5)) := by
  subst hk
  have hlo := hO.lt
  have hlt := hown.lt
  have hs1 := hb1.size
  have hy : VCells 10 w1 (fun b => OB + 1 ≤ b ∧ (Value.slice A3 S.length c3).ownBlock ≠ some b) [.int .i64 yk, .int .i64 yn, .string yt, .slice A4 ya.length c4] (V.mk yk yn yt ya) :=
    hv4.imp fun b hb _ => ⟨by have : w6.heap.size ≤ b := hb; omega, fun e => by have := (hlt b e).2; have : w6.heap.size ≤ b := hb; omega⟩
  have hpush := OwnList.push (VCells.stable 10) ha1 hy hg2 hat2 hown2
  have hfar : ∀ i, (Value.slice A3 S.length c3).ownBlock = some i → OB + 1 ≤ i := fun i hi => (hlt i hi).1
  have hO2 := ((hO.below hb1 hlo).alloc (.cells #[.int .i64 yk, .int .i64 yn, .string yt, .slice A4 ya.length c4] 47)).grown hg2 (fun e => by have := hfar _ e.symm; omega)
  refine ⟨⟨A5, c5, hO2.put 1 _, hpush.keep (VCells.stable 10) fun b hb _ => Below.heap_setCell _ _ _ _ (by have h1 : OB + 1 ≤ b := hb; show b ≠ OB; omega), by simp⟩, ?_⟩
  exact (((hb1.mono (Nat.le_of_lt hlo)).alloc (by omega) _).grown hg2 (by simp; omega) (fun i hi => by have := hfar i hi; omega)).setCell (p := ⟨OB, 1, none⟩) (Nat.le_refl _) _
end Go.Proofs.Ytoddjdajjmcliaa
