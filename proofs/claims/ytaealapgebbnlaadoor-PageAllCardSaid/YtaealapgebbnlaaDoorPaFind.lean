/- Contract of page.Find at the laws' module. -/
import Derived.Test.YtaealapgebbnlaaDoorPaDel
set_option linter.unusedVariables false
namespace Go.Proofs.YtaealapgebbnlaaDoor
open Go.RowKit Go.Mem Go.Md
def FindPost (w : World) (t : Bs) (e : Ending) (w' : World) : Prop :=
  Below w.heap.size w w' ∧ ((keepF t allE = [] ∧ e = .returned (.tuple #[.slice none 0 0, .int .i64 11])) ∨ (keepF t allE ≠ [] ∧ ∃ A c m, e = .returned (.tuple #[.slice A m c, .int .i64 0]) ∧ m = (keepF t allE).length ∧ Reads w' Any 4 A m (ensC (keepF t allE))))
/-- the entries' block -/
theorem row_split {w : World} {g : Nat} {cs : List Value} {D : Nat → Prop} (hb : Blk w g 48 cs) (hr : Reads w D 4 (some ⟨g, 0, none⟩) 11 (ensC allE)) : cs = ensC allE ++ cs.drop 44 := by
  have hl : (ensC allE).length = 44 := by rw [ensC_len]; rfl
  obtain ⟨b, o, e, _, hc⟩ := hr.2 (by omega)
  injection e with e
  injection e with e1 e2
  subst e1
  subst e2
  have h1 : cs.take 44 = ensC allE := by
    apply List.ext_getElem?
    intro j
    by_cases hj : j < 44
    · rw [List.getElem?_take_of_lt hj, ← hb.cell]
      have h2 := List.getElem?_eq_getElem (l := ensC allE) (i := j) (by omega)
      rw [h2]
      have h3 := hc j _ h2
      rw [Nat.zero_add] at h3
      exact h3
    · rw [List.getElem?_eq_none (by rw [List.length_take]; omega), List.getElem?_eq_none (by omega)]
  rw [← h1, List.take_append_drop]
set_option maxRecDepth 100000 in
set_option maxHeartbeats 4000000 in
theorem find_any (cs : List Value) (fs : List Md.Fn) (z : Bd) (w : World) (hm : ModAt w Any cs fs z) (t : Bs) :
    Calls Tryd.prog 6 #[.agg cs.toArray, bst t] w (FindPost w t) := by
  unfold FindPost
  have EN := Lib.hid (fun (V : World) (hV : Below w.heap.size w V) => entriesF_any cs fs z V (hm.keep (Same.any hV)))
  obtain ⟨⟨AD, cD, AM, cM, AF, cF, AZ, cZ, vss, vs, rfl, _⟩, _⟩ := hm
  obtain ⟨W, hW⟩ : ∃ W, W = (w.alloc (.cells #[bst [109], .int .i64 1, .slice none 0 0, .slice AD 1 cD, .slice none 0 0, .slice none 0 0, .slice AF 8 cF, .slice AZ 1 cZ] 30)).alloc (.cells #[bst t] 9) := ⟨_, rfl⟩
  obtain ⟨SB, hSB⟩ : ∃ b, b = w.heap.size + 1 := ⟨_, rfl⟩
  have b0 : Below w.heap.size w (w.alloc (.cells #[bst [109], .int .i64 1, .slice none 0 0, .slice AD 1 cD, .slice none 0 0, .slice none 0 0, .slice AF 8 cF, .slice AZ 1 cZ] 30)) := (Below.refl _ _).alloc (Nat.le_refl _) _
  have bW : Below w.heap.size w W := by rw [hW]; exact b0.alloc b0.size _
  have fS : Blk W SB 9 [bst t] := by
    rw [hW, hSB]
    have := Blk.new (w.alloc (.cells #[bst [109], .int .i64 1, .slice none 0 0, .slice AD 1 cD, .slice none 0 0, .slice none 0 0, .slice AF 8 cF, .slice AZ 1 cZ] 30)) 9 [bst t]
    rw [World.size_alloc] at this
    exact this
  have HW := Lib.hid (And.intro bW fS)
  have HWW := Lib.hid (And.intro hW hSB)
  clear b0 bW fS hW hSB
  go_enter Tryd.func6, Tryd.ntmps6
  go_wp2_with (fail)
  rw [← HWW.out.1, ← HWW.out.2]
  refine (EN.out W HW.out.1).mono ?_
  rintro e w1 ⟨A, c, rfl, hnc, hcm, hr, hb1, g, cs2, rfl, hg, hbk⟩
  have hsp := row_split hbk hr
  rw [hsp] at hbk
  have DE := Lib.hid (deleteE_any SB t g c (cs2.drop 44) allE w.heap.size w1 hbk (Nat.le_trans HW.out.1.size hg) (Nat.le_trans HW.out.1.size hb1.size) hnc hcm (by rw [allE_len]; omega) 11 rfl (HW.out.2.below hb1 HW.out.2.lt))
  have B1 := Lib.hid (show Below w.heap.size w w1 from HW.out.1.trans (hb1.mono HW.out.1.size))
  clear hnc hcm hr hb1 hg hbk hsp
  go_wp2_with (fail)
  refine DE.out.mono ?_
  rintro e w2 ⟨c', m, rfl, hm, hmc, hcm, hr2, hb2⟩
  have H2 := Lib.hid (And.intro hm (And.intro hr2 (B1.out.trans hb2)))
  clear hmc hcm hr2 hb2 hm
  by_cases hm0 : m = 0
  · subst hm0
    go_wp2_with (fail)
    go_ret2
    exact ⟨H2.out.2.2, .inl ⟨List.eq_nil_of_length_eq_zero H2.out.1.symm, rfl⟩⟩
  · have hmi : ((m : Int) == 0) = false := by simp; omega
    go_wp2_with (fail)
    go_ret2
    exact ⟨H2.out.2.2, .inr ⟨fun e => hm0 (by rw [H2.out.1, e]; rfl), _, _, _, rfl, H2.out.1, H2.out.2.1⟩⟩
end Go.Proofs.YtaealapgebbnlaaDoor
