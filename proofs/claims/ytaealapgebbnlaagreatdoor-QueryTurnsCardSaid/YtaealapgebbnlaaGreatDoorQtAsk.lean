/- What strconv.Itoa and strings.Split ask of the world; query.Ask at the question "count"; slices.Equal at two rows of one string. -/
import Derived.Test.YtaealapgebbnlaaGreatDoorQtShelf
import Derived.Test.YtaealapgebbnlaaGreatDoorQrCont
import Derived.Lib.ItoaMem
import Derived.Lib.AppendIntMem
import Derived.Lib.SmallJoins
import Derived.ChangeAgain
set_option linter.unusedVariables false
namespace Go.Proofs.YtaealapgebbnlaaGreatDoor
open Go.RowKit Go.Mem Go.Md Go.Maps
structure Env (w : World) : Prop where
  tab : Lib.TabIs Tryz.prog w "internal/strconv.uint64pow10" .u64 Lib.pow10Tab
  sh : w.ShapedOpen Tryz.prog
theorem tab_keep {P : Program} {w w' : World} {name : String} {k : IntKind} {zs : List Int} (h : Lib.TabIs P w name k zs) (hb : Below w.heap.size w w') : Lib.TabIs P w' name k zs := by
  unfold Lib.TabIs World.var? at h ⊢
  cases e : P.globalNamed name with
  | none => rw [e] at h; simp at h
  | some g =>
    rw [e] at h
    simp only [Option.bind_some] at h ⊢
    cases e2 : w.heap[g]? with
    | none => rw [e2] at h; simp at h
    | some o =>
      have hg : g < w.heap.size := (Array.getElem?_eq_some_iff.1 e2).1
      rw [hb.block g hg]
      exact h
theorem Env.below {w w' : World} (h : Env w) (hb : Below w.heap.size w w') : Env w' :=
  ⟨tab_keep h.tab hb, h.sh.keptBut (may := fun _ => False) (hb.frame _) (fun _ h => h.elim)⟩
theorem drewN_below (w : World) : ∀ n, Below w.heap.size w (w.drewN n)
  | 0 => Below.refl _ _
  | n + 1 => (drewN_below w n).drew
theorem itoa_ten (w : World) (h : Env w) : Calls Tryz.prog 19 #[.int .i64 10] w fun e w' => e = .returned (.string ⟨#[49, 48]⟩) ∧ Below w.heap.size w w' := by
  refine (Tryz.strconv_Itoa 10 (by omega) (by omega) w h.tab).mono ?_
  rintro e w' ⟨rfl, k, os, rfl⟩
  have e1 : Lib.itoa 10 = [49, 48] := by decide +kernel
  rw [e1]
  exact ⟨rfl, Lib.below_grow _ w (Nat.le_refl _) k os⟩
theorem split_count (w : World) (h : Env w) : Calls Tryz.prog 16 #[.string ⟨#[99, 111, 117, 110, 116]⟩, .string ⟨#[32]⟩] w fun e w' => e = .returned (.slice (some ⟨w.heap.size, 0, none⟩) 1 1) ∧ w' = w.alloc (.cells #[.string ⟨#[99, 111, 117, 110, 116]⟩] 9) := by
  refine (Tryz.strings_Split_shaped ⟨#[99, 111, 117, 110, 116]⟩ ⟨#[32]⟩ w h.sh (by decide +kernel) (by decide +kernel)).mono ?_
  rintro e w' ⟨rfl, rfl⟩
  have e1 : Lib.countB ⟨#[99, 111, 117, 110, 116]⟩ ⟨#[32]⟩ = 0 := by decide +kernel
  have e2 : Lib.splitB ⟨#[32]⟩ 0 0 ⟨#[99, 111, 117, 110, 116]⟩ = [⟨#[99, 111, 117, 110, 116]⟩] := by decide +kernel
  rw [e1, e2]
  exact ⟨rfl, rfl⟩
theorem equal_ten (D D' : Nat → Prop) (A B : Option Addr) (c d : Nat) (w : World) (h1 : Reads w D 1 A 1 [.string ⟨#[49, 48]⟩]) (h2 : Reads w D' 1 B 1 [.string ⟨#[49, 48]⟩]) : Calls Tryz.prog 9 #[.slice A 1 c, .slice B 1 d] w fun e w' => e = .returned (.bool true) ∧ Below w.heap.size w w' := by
  obtain ⟨b1, o1, rfl, _, _⟩ := h1.2 (by omega)
  obtain ⟨b2, o2, rfl, _, _⟩ := h2.2 (by omega)
  have c1 := strs_cells (l := [[49, 48]]) h1 (by omega)
  have c2 := strs_cells (l := [[49, 48]]) h2 (by omega)
  refine (Tryz.slices_Equal_string b1 o1 1 c b2 o2 1 d [⟨#[49, 48]⟩] [⟨#[49, 48]⟩] w (by simp) (by simp) (by omega) (by omega) c1 c2).mono ?_
  rintro e w' ⟨rfl, q, rfl⟩
  exact ⟨by simp, drewN_below w q⟩
set_option maxRecDepth 100000 in
set_option maxHeartbeats 4000000 in
theorem qask_any (cs : List Value) (fs : List Md.Fn) (z : Bd) (w : World) (hm : ModAt w Any cs fs z) (hbd : ∀ f ∈ fs, BdOk f.2) (hz : BdOk z) (hv : Env w) :
    Calls Tryz.prog 8 #[.agg cs.toArray, .string ⟨#[99, 111, 117, 110, 116]⟩] w fun e w' => ∃ A c, e = .returned (.tuple #[.slice A 1 c, .int .i64 0]) ∧ Reads w' Any 1 A 1 [.string ⟨#[49, 48]⟩] ∧ Below w.heap.size w w' := by
  have NG := Lib.hid (fun (V : World) (hV : Below w.heap.size w V) => newGraph_any cs fs z V (hm.keep (Same.any hV)) hbd hz)
  obtain ⟨⟨AD, cD, AM, cM, AF, cF, AZ, cZ, vss, vs, rfl, _⟩, _⟩ := hm
  have HV := Lib.hid hv
  clear hbd hz hv
  go_enter Tryz.func8, Tryz.ntmps8
  go_wp2_with (fail)
  have b1 : Below w.heap.size w (w.alloc (.cells #[bst [109], .int .i64 1, .slice none 0 0, .slice AD 1 cD, .slice none 0 0, .slice none 0 0, .slice AF 8 cF, .slice AZ 1 cZ] 30)) := (Below.refl _ _).alloc (Nat.le_refl _) _
  refine (split_count _ (HV.out.below b1)).mono ?_
  rintro e w2 ⟨rfl, rfl⟩
  have B2 := Lib.hid (b1.alloc b1.size (.cells #[.string ⟨#[99, 111, 117, 110, 116]⟩] 9))
  clear b1
  go_wp2_with (fail)
  refine (NG.out _ B2.out).mono ?_
  rintro e w1 ⟨G, U, I, A1, c1, bs, rfl, hgr, _, _, _, hb1⟩
  have g0 := hgr.g.cell 0
  simp only [List.getElem?_cons_zero] at g0
  have lg := lt_of_cell g0
  have hlen : (zipU nmA bs).length = 10 := by have h1 := congrArg List.length (zipU_fst (nm := nmA) (bs := bs) hgr.lb); rw [List.length_map] at h1; exact h1
  have HG := Lib.hid (And.intro hgr hlen)
  have B1 := Lib.hid (below_next hb1 B2.out)
  clear hgr hb1 hlen
  go_wp2_with (refine wpList_mlen _ rfl (.tmp 33) _ rfl Tryz.underlying64 rfl HG.out.1.u ?_; rw [HG.out.2])
  refine (itoa_ten w1 (HV.out.below B1.out)).mono ?_
  rintro e w3 ⟨rfl, hb3⟩
  have r4 : Reads (w3.alloc (.cells #[.string ⟨#[49, 48]⟩] 9)) Any 1 (some ⟨w3.heap.size, 0, none⟩) 1 [.string ⟨#[49, 48]⟩] := Reads.new w3 [.string ⟨#[49, 48]⟩] 1 1 9 Any trivial rfl
  have b4 : Below w3.heap.size w3 (w3.alloc (.cells #[.string ⟨#[49, 48]⟩] 9)) := (Below.refl _ _).alloc (Nat.le_refl _) _
  have H4 := Lib.hid (And.intro r4 (below_next b4 (below_next hb3 B1.out)))
  clear hb3 r4 b4 g0 lg
  go_wp2_with (fail)
  go_ret2
  exact ⟨_, _, rfl, H4.out.1, H4.out.2⟩
end Go.Proofs.YtaealapgebbnlaaGreatDoor
