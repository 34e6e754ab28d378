/- Contract of roadkeep5.bare (strings.Map that drops blanks and breaks) at letters under 128, where the tables of unicode/utf8 lie as laid. -/
import Derived.Test.YtdbpgofabbpadaaDoorLyCheck
import Derived.Lib.TrimUEq
set_option linter.unusedVariables false
namespace Go.Ly
def dropF (x : Int) : Int := if x = 32 ∨ x = 10 then -1 else x
theorem mapD_bare : ∀ (l : List UInt8), (∀ b ∈ l, b.toNat < 128) → Lib.mapD dropF l = bareF l
  | [], _ => rfl
  | b :: r, h => by
    have hb := h b (by simp)
    have hd : Lib.decodeL (b :: r) = (b.toNat, 1) := by
      rw [Lib.decodeL_N]
      unfold Lib.decodeN
      rw [if_pos (by simpa using hb)]
      rfl
    have ir := mapD_bare r (fun c hc => h c (by simp [hc]))
    rw [Lib.mapD_step _ _ (by simp), hd]
    have e := Lib.encode_decode (b :: r) (by simp) (by rw [hd]; simp; omega)
    rw [hd] at e
    simp only [List.drop_succ_cons, List.drop_zero, List.take_succ_cons, List.take_zero] at e ⊢
    rw [ir]
    unfold bareF dropF
    by_cases h1 : b = 32
    · subst h1; simp
    · by_cases h2 : b = 10
      · subst h2; simp
      · have n1 : b.toNat ≠ 32 := fun e => h1 (UInt8.toNat_inj.1 (by rw [e]; rfl))
        have n2 : b.toNat ≠ 10 := fun e => h2 (UInt8.toNat_inj.1 (by rw [e]; rfl))
        have n3 : ¬ ((b.toNat : Int) = 32 ∨ (b.toNat : Int) = 10) := by omega
        rw [if_neg n3, if_pos (by omega), e, List.filter_cons, if_pos (by simp [h1, h2])]
        rfl
end Go.Ly
namespace Go.Proofs.YtdbpgofabbpadaaDoor
open Go.RowKit Go.Mem Go.Ly
theorem drop_any (x : Nat) (hx : x ≤ 1114111) (w : World) : Calls Tryd.prog 14 #[.int .i32 (x : Nat)] w fun e w' => e = .returned (.int .i32 (dropF x)) ∧ w' = w := by
  by_cases h1 : x = 32
  · subst h1
    go_enter Tryd.func14, Tryd.ntmps14
    go_wp2
    go_ret
    exact ⟨rfl, rfl⟩
  · by_cases h2 : x = 10
    · subst h2
      go_enter Tryd.func14, Tryd.ntmps14
      go_wp2
      go_ret
      exact ⟨rfl, rfl⟩
    · have t1 : (((x : Nat) : Int) == 32) = false := by simp; omega
      have t2 : (((x : Nat) : Int) == 10) = false := by simp; omega
      have e : dropF x = x := by unfold dropF; rw [if_neg (by omega)]
      rw [e]
      clear e h1 h2
      go_enter Tryd.func14, Tryd.ntmps14
      go_wp2
      go_ret
      exact ⟨rfl, rfl⟩
theorem bare_any (s : List UInt8) (w : World) (hs : ∀ b ∈ s, b.toNat < 128) (hl : s.length ≤ 100000) (hT : Lib.Utf8Tabs 0 1 w) :
    Calls Tryd.prog 7 #[sv s] w fun e w' => e = .returned (sv (bareF s)) ∧ Below w.heap.size w w' := by
  have hm := Tryd.strings_Map_grows 14 #[] (enters_of Tryd.func14 (by kernel_rfl) rfl) dropF ⟨s.toArray⟩ w (by rw [sv_len]; omega)
    (fun W x hx hb => (drop_any x hx W).mono fun e w' ⟨he, hw⟩ => ⟨he, by rw [hw]; exact Below.refl _ _⟩)
    (fun x hx => by unfold dropF; split <;> omega) hT
  have em : Lib.mapD dropF (ByteArray.mk s.toArray).data.toList = bareF s := mapD_bare s hs
  rw [em] at hm
  have HM := Lib.hid hm
  unfold sv
  clear hm em hT hs
  go_enter Tryd.func7, Tryd.ntmps7
  go_wp2_with (go_at_call 13; refine HM.out.mono ?_; rintro e w1 ⟨rfl, hb1⟩)
  go_ret
  exact ⟨rfl, hb1⟩
end Go.Proofs.YtdbpgofabbpadaaDoor
