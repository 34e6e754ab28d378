/- What LockBack's texts ask of the world: a table, a shape, an error's variable; kept when the world grows. Contracts of the library's functions at what they meet. -/
import Derived.Test.YtpdjeaiojfghnaaDoorLbLaw
import Derived.Test.YtpdjeaiojfghnaaDoorLbShelf
import Derived.Lib.ItoaMem
import Derived.Lib.AppendIntMem
import Derived.Lib.SmallJoins
import Derived.ChangeAgain
import Derived.LaidLaws
set_option linter.unusedVariables false
namespace Go.Proofs.YtpdjeaiojfghnaaDoor
open Go.RowKit Go.Mem Go.Sv Go.Txt
structure Env (w : World) : Prop where
  tab : Lib.TabIs Tryd.prog w "internal/strconv.uint64pow10" .u64 Lib.pow10Tab
  sh : w.ShapedOpen Tryd.prog
  syn : ∃ tp p, w.var? Tryd.prog "strconv.ErrSyntax" = some #[.iface tp p]
theorem var_keep {P : Program} {w w' : World} {name : String} {x : Array Value} (h : w.var? P name = some x) (hb : Below w.heap.size w w') : w'.var? P name = some x := by
  unfold World.var? at h ⊢
  cases e : P.globalNamed name with
  | none => rw [e] at h; simp at h
  | some g =>
    rw [e] at h
    simp only [Option.bind_some] at h ⊢
    cases e2 : w.heap[g]? with
    | none => rw [e2] at h; simp at h
    | some o =>
      have hg : g < w.heap.size := (Array.getElem?_eq_some_iff.1 e2).1
      rw [hb.block g hg]
      exact h
theorem tab_keep {P : Program} {w w' : World} {name : String} {k : IntKind} {zs : List Int} (h : Lib.TabIs P w name k zs) (hb : Below w.heap.size w w') : Lib.TabIs P w' name k zs := by
  unfold Lib.TabIs World.var? at h ⊢
  cases e : P.globalNamed name with
  | none => rw [e] at h; simp at h
  | some g =>
    rw [e] at h
    simp only [Option.bind_some] at h ⊢
    cases e2 : w.heap[g]? with
    | none => rw [e2] at h; simp at h
    | some o =>
      have hg : g < w.heap.size := (Array.getElem?_eq_some_iff.1 e2).1
      rw [hb.block g hg]
      exact h
theorem Env.below {w w' : World} (h : Env w) (hb : Below w.heap.size w w') : Env w' := by
  obtain ⟨tp, p, hs⟩ := h.syn
  exact ⟨tab_keep h.tab hb, h.sh.keptBut (may := fun _ => False) (hb.frame _) (fun _ h => h.elim), tp, p, var_keep hs hb⟩
theorem itoa_any (u : Nat) (hu : u ≤ 9999) (w : World) (h : Env w) : Calls Tryd.prog 18 #[.int .i64 (u : Nat)] w fun e w' => e = .returned (.string ⟨(Lib.decDigits u).toArray⟩) ∧ Below w.heap.size w w' := by
  refine (Tryd.strconv_Itoa (u : Int) (by omega) (by omega) w h.tab).mono ?_
  rintro e w' ⟨rfl, k, os, rfl⟩
  exact ⟨by rw [Lib.itoa_nonneg], Lib.below_grow _ w (Nat.le_refl _) k os⟩
theorem atoi_any (u : Nat) (hu : u ≤ 9999) (w : World) : Calls Tryd.prog 22 #[.string ⟨(Lib.decDigits u).toArray⟩] w fun e w' => e = .returned (.tuple #[.int .i64 (u : Nat), .nilIface]) ∧ Below w.heap.size w w' := by
  have hl := Txt.digits_len (u := u) (k := 4) (by omega) (by omega)
  refine (Tryd.strconv_Atoi_ok ⟨(Lib.decDigits u).toArray⟩ (by simp [ByteArray.size]; omega) (u : Int) (Txt.atoi_digits u (by omega)) w).mono ?_
  rintro e w' ⟨rfl, rfl | ⟨t, rfl⟩⟩
  · exact ⟨rfl, Below.refl _ _⟩
  · exact ⟨rfl, Joins.below_bytesWorld _ _ _ _ (Nat.le_refl _)⟩
theorem atoi_empty (w : World) (h : Env w) : Calls Tryd.prog 22 #[.string ⟨#[]⟩] w fun e w' => ∃ te v, e = .returned (.tuple #[.int .i64 0, .iface te v]) ∧ Below w.heap.size w w' := by
  obtain ⟨tp, p, hs⟩ := h.syn
  refine (Tryd.strconv_Atoi_empty (.iface tp p) w ((World.var?_cell Tryd.laysC172.m15 hs 0).trans (by simp)) (Or.inr ⟨tp, p, rfl⟩)).mono ?_
  rintro e w' ⟨N, rfl, _, _, hb⟩
  exact ⟨_, _, rfl, hb⟩
theorem below_drewNm' (w : World) : ∀ n, Below w.heap.size w (w.drewN n)
  | 0 => Below.refl _ _
  | n + 1 => (below_drewNm' w n).drew
theorem cut_gen (s a b : List UInt8) (f : Bool) (hc : Lib.cut s [32] = (a, b, f)) (hl : s.length ≤ 1000) (w : World) (hv : Env w) :
    Calls Tryd.prog 20 #[.string ⟨s.toArray⟩, .string ⟨#[32]⟩] w fun e w' => e = .returned (.tuple #[.string ⟨a.toArray⟩, .string ⟨b.toArray⟩, .bool f]) ∧ Below w.heap.size w w' := by
  refine (Tryd.strings_Cut_shaped ⟨s.toArray⟩ ⟨#[32]⟩ w hv.sh (by rw [ba_size]; omega)).mono ?_
  rintro e w' ⟨rfl, n, rfl⟩
  refine ⟨?_, below_drewNm' w n⟩
  show Ending.returned (.tuple #[.string ⟨(Lib.cut s [32]).1.toArray⟩, .string ⟨(Lib.cut s [32]).2.1.toArray⟩, .bool (Lib.cut s [32]).2.2]) = _
  rw [hc]
theorem trim_gen (s a : List UInt8) (hc : Lib.trimSuffix s [10] = a) (hl : s.length ≤ 1000) (w : World) :
    Calls Tryd.prog 21 #[.string ⟨s.toArray⟩, .string ⟨#[10]⟩] w fun e w' => e = .returned (.string ⟨a.toArray⟩) ∧ w = w' := by
  refine (Tryd.strings_TrimSuffix ⟨s.toArray⟩ ⟨#[10]⟩ w (by rw [ba_size]; omega)).mono ?_
  rintro e w' ⟨rfl, rfl⟩
  refine ⟨?_, rfl⟩
  show Ending.returned (.string ⟨(Lib.trimSuffix s [10]).toArray⟩) = _
  rw [hc]
theorem count_gen (l : List Pk) (h : ∀ p ∈ l, Letter p.1) (w : World) :
    Calls Tryd.prog 10 #[.string ⟨(textF l).toArray⟩, .string ⟨#[10]⟩] w fun e w' => e = .returned (.int .i64 (l.length : Nat)) ∧ w = w' := by
  refine (Tryd.strings_Count_one ⟨(textF l).toArray⟩ 10 w).mono ?_
  rintro e w' ⟨rfl, rfl⟩
  refine ⟨?_, rfl⟩
  show Ending.returned (.int .i64 (Lib.countByte (textF l) 10 : Nat)) = _
  rw [text_count l h]
end Go.Proofs.YtpdjeaiojfghnaaDoor
