/- Two worlds of package replay side by side; bounds of runs. No condition. -/
import Derived.Test.YtlpkgheggbcidaaDoorRpToys
set_option linter.unusedVariables false
namespace Go.Rp
open Go.Mem Go.RowKit
theorem again_inv : ∀ (l : List Ch) {s : Wd} {n : Nat}, Inv s n → Inv (againF s l).1 (n + l.length)
  | [], s, n, h => by simpa [againF] using h
  | c :: r, s, n, h => by
    unfold againF
    split
    · have := again_inv r (h.step c)
      simp only [List.length_cons]
      exact this.le (by omega)
    · exact h.le (by omega)
theorem play_len : ∀ (ps : List Int) (s : Wd), (playF s ps).2.length ≤ ps.length
  | [], s => Nat.le_refl _
  | p :: r, s => by
    unfold playF
    split
    · simp
    · rename_i c hc
      have := play_len r (stepF s c)
      simp only [List.length_cons]
      omega
theorem no_99 {s : Wd} (h : s.acs.length ≤ 30) : againF s [⟨1, 99, 0⟩] = (s, 0, false) := by
  have hn : (⟨1, 99, 0⟩ : Ch) ∉ choicesF s := fun hc => by
    rcases mem_choices hc with ⟨i, a, ha, _, e⟩ | ⟨a, b, _, _, _, e⟩ | ⟨i, a, ha, _, e⟩
    · injection e with _ e _
      have := (List.getElem?_eq_some_iff.1 ha).1
      omega
    · injection e with e _ _
      omega
    · injection e with e _ _
      omega
  simp [againF, if_neg hn]
end Go.Rp
namespace Go.Proofs.YtlpkgheggbcidaaDoor
open Go.RowKit Go.Mem Go.Rp Go.Maps
/-- no block is of two worlds -/
def Dis (col colO : Nat → Cl) (w : World) : Prop := ∀ b, b < w.heap.size → col b = .out ∨ colO b = .out
theorem Dis.symm {col colO : Nat → Cl} {w : World} (h : Dis col colO w) : Dis colO col w := fun b hb => (h b hb).symm
theorem Dis.step {col colO colO' : Nat → Cl} {w w' : World} (h : Dis col colO w) (st : Stp colO colO' w w') : Dis (recol col w.heap.size .out) colO' w' := fun b hb => by
  rcases Nat.lt_or_ge b w.heap.size with hl | hl
  · rcases h b hl with h1 | h1
    · exact .inl (by rw [recol_old hl]; exact h1)
    · exact .inr ((st.c b hl).2 h1)
  · exact .inl (recol_new hl)
theorem Dis.below {col colO : Nat → Cl} {w w' : World} (h : Dis col colO w) : Dis (recol col w.heap.size .out) (recol colO w.heap.size .out) w' := fun b hb => by
  rcases Nat.lt_or_ge b w.heap.size with hl | hl
  · rw [recol_old hl, recol_old hl]
    exact h b hl
  · exact .inl (recol_new hl)
theorem WdAt.other {w w' : World} {B T : Nat} {col colO colO' : Nat → Cl} {s : Wd} (h : WdAt w B T col s) (st : Stp colO colO' w w') (hd : Dis col colO w) (hO : ∀ b, b < B → colO b = .out) : WdAt w' B T (recol col w.heap.size .out) s := by
  have low := h.low
  have lB := h.lB
  obtain ⟨A, c, av, ps, M, l, sv, h⟩ := h
  have own : ∀ b, b < w.heap.size → col b ≠ .out → w'.heap[b]? = w.heap[b]? := fun b hb hc => st.g.block b hb (fun hO => by
    rcases hd b hb with h1 | h1
    · exact hc h1
    · exact hO h1)
  exact ⟨_, _, _, _, _, _, _, h.keep st.g.size (fun b hb hl => st.g.block b hl (fun hc => hc (hO b hb))) (fun b hb hc => ⟨own b hb hc, recol_old hb⟩) (fun b hb => by rw [recol_old (by omega)]; exact low b hb)⟩
theorem rd_out {w : World} {col : Nat → Cl} {size n m : Nat} {A : Option Addr} {xs : List Value} (h : Reads w (fun b => col b = .out) size A m xs) (hz : 0 < size) : Reads w (fun b => recol col n .out b = .out) size A m xs :=
  h.imp hz fun b hb _ => by
    rcases Nat.lt_or_ge b n with hl | hl
    · rw [recol_old hl]; exact hb
    · exact recol_new hl
/-- two worlds -/
structure Two (w0 w : World) (B Ta Tb : Nat) (ca cb : Nat → Cl) (sa sb : Wd) : Prop where
  a : WdAt w B Ta ca sa
  b : WdAt w B Tb cb sb
  d : Dis ca cb w
  la : ∀ q, q < B → ca q = .out
  lb : ∀ q, q < B → cb q = .out
  bel : Below B w0 w
section
variable {w0 w w' : World} {B Ta Tb : Nat} {ca ca' cb cb' : Nat → Cl} {sa sa' sb sb' : Wd}
theorem Two.stepA (h : Two w0 w B Ta Tb ca cb sa sb) (ha : WdAt w' B Ta ca' sa') (st : Stp ca ca' w w') : Two w0 w' B Ta Tb ca' (recol cb w.heap.size .out) sa' sb :=
  ⟨ha, h.b.other st h.d.symm h.la, (h.d.symm.step st).symm, ha.low, (h.b.other st h.d.symm h.la).low, h.bel.trans (st.below_of h.la h.a.lB)⟩
theorem Two.stepB (h : Two w0 w B Ta Tb ca cb sa sb) (hb : WdAt w' B Tb cb' sb') (st : Stp cb cb' w w') : Two w0 w' B Ta Tb (recol ca w.heap.size .out) cb' sa sb' :=
  ⟨h.a.other st h.d h.lb, hb, h.d.step st, (h.a.other st h.d h.lb).low, hb.low, h.bel.trans (st.below_of h.lb h.a.lB)⟩
theorem Two.below (h : Two w0 w B Ta Tb ca cb sa sb) (hb : Below w.heap.size w w') : Two w0 w' B Ta Tb (recol ca w.heap.size .out) (recol cb w.heap.size .out) sa sb :=
  ⟨h.a.below hb .out, h.b.below hb .out, h.d.below, (h.a.below hb .out).low, (h.b.below hb .out).low, h.bel.trans (hb.mono h.a.lB)⟩
end
theorem play_inv : ∀ (ps : List Int) {s : Wd} {n : Nat}, Inv s n → Inv (playF s ps).1 (n + ps.length)
  | [], s, n, h => by simpa [playF] using h
  | p :: r, s, n, h => by
    unfold playF
    split
    · exact h.le (by omega)
    · rename_i c hc
      have := play_inv r (h.step c)
      simp only [List.length_cons]
      exact this.le (by omega)
theorem i64_tdiv {x : Int} (h : I64 x) (d : Int) (hd : 1 ≤ d) : I64 (x.tdiv d) ∧ IntKind.i64.wrap (x.tdiv d) = x.tdiv d := by
  have hb : I64 (x.tdiv d) := by
    obtain ⟨h1, h2⟩ := h
    rcases Int.lt_or_le x 0 with hx | hx
    · have e : x.tdiv d = -((-x).tdiv d) := by rw [Int.neg_tdiv, Int.neg_neg]
      have e2 : (-x).tdiv d = (-x) / d := Int.tdiv_eq_ediv_of_nonneg (by omega)
      have h3 : (-x) / d ≤ -x := Int.ediv_le_self _ (by omega)
      have h4 : 0 ≤ (-x) / d := Int.ediv_nonneg (by omega) (by omega)
      unfold I64
      rw [e, e2]
      omega
    · have e2 : x.tdiv d = x / d := Int.tdiv_eq_ediv_of_nonneg hx
      have h3 : x / d ≤ x := Int.ediv_le_self _ hx
      have h4 : 0 ≤ x / d := Int.ediv_nonneg hx (by omega)
      unfold I64
      rw [e2]
      omega
  refine ⟨hb, IntWalk.i64_in _ ?_⟩
  unfold I64 at hb
  omega
end Go.Proofs.YtlpkgheggbcidaaDoor
