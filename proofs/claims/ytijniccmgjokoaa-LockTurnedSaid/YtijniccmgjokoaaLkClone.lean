/- slices.Clone at picks; slices.DeleteFunc at picks where the function holds of none. -/
import Derived.Test.YtijniccmgjokoaaLkCheck
set_option linter.unusedVariables false
namespace Go.Proofs.Ytijniccmgjokoaa
open Go.RowKit Go.Mem Go.Sv Go.Maps
set_option maxRecDepth 100000 in
theorem clone_pks (A : Option Addr) (n c : Nat) (l : List Pk) (w : World) (hr : Reads w Any 2 A n (pks l)) (hn : n ≤ 1000) :
    Calls Try.prog 40 #[.slice A n c] w fun e w' => ∃ A c, e = .returned (.slice A n c) ∧ w'.ownsRow w.heap.size 27 2 (.slice A n c) n (pks l) ∧ Below w.heap.size w w' := by
  have Hn := Lib.hid hn
  clear hn
  have q : ∀ (w : World) (a : Option Addr) (n c : Nat), (binOp .eql 23 (.slice a n c) (.slice none 0 0)).run Try.prog w = .ok (.bool a.isNone) w := fun w a n c => Lib.run_eql_slice_nil w _ _ a n c 0 0 Try.underlying23
  rcases A with _ | ad
  · obtain rfl := hr.nil_len
    go_enter Try.func40, Try.ntmps40
    go_wp2
    go_ret
    have hx : pks l = [] := List.eq_nil_of_length_eq_zero (by simpa using hr.1)
    rw [hx]
    exact ⟨none, 0, rfl, World.ownsRow_nil _ _ _ _, Below.refl _ _⟩
  · go_enter Try.func40, Try.ntmps40
    go_wp2_with (at_builtin; refine app_pk _ rfl (.tmp 5) (.tmp 6) _ Try.underlying23 rfl (World.ownsRow_made w #[] 0 (Nat.le_refl _) (Nat.zero_le _) rfl) rfl (hr.keep (Same.alloc _ _ _)) rfl (pks_ones l) (by have := Hn.out; omega) (by simp) ?_; intro v1 w1 hown1 hg1 hat1)
    go_ret
    simp only [Nat.zero_add, List.nil_append] at hown1
    obtain ⟨A1, c1, rfl, _⟩ := own_form hown1
    refine ⟨A1, c1, rfl, hown1, ((Below.refl _ _).alloc (Nat.le_refl _) _).grown hg1 (by simp) (by simp [Value.ownBlock])⟩
/-- nothing is deleted -/
theorem delete_none (A : Option Addr) (n c : Nat) (l : List Pk) (p : Pk → Bool) (g : Nat) (cb : Array Value) (w : World) (hr : Reads w Any 2 A n (pks l)) (hn : n = l.length) (hn1 : n ≤ 1000)
    (eg : ∀ args w, (callFunc g args).run Try.prog w = .ok (.enter g args) w)
    (hp : ∀ r ∈ l, ∀ W, Below w.heap.size w W → Calls Try.prog g (#[.agg #[str r.1, .int .i64 (r.2 : Nat)]] ++ cb) W fun e w' => e = .returned (.bool (p r)) ∧ Below W.heap.size W w') (hno : ∀ r ∈ l, p r = false) :
    Calls Try.prog 39 #[.slice A n c, .func (.func g) #[] cb] w fun e w' => e = .returned (.slice A n c) ∧ Below w.heap.size w w' := by
  have IX := Lib.hid (indexFuncP_any A n c l p g cb w hr hn (by omega) eg hp)
  have HN := Lib.hid hno
  clear hr hn hp eg hno
  go_enter Try.func39, Try.ntmps39
  go_wp2_with (fail)
  refine IX.out.mono ?_
  rintro e w1 ⟨i, rfl, hf, hb⟩
  rcases hf with ⟨_, rfl⟩ | ⟨j, hj, _, hs⟩
  · go_wp2_with (fail)
    go_ret
    exact ⟨rfl, hb⟩
  · have := List.find?_some hs
    rw [HN.out _ (List.mem_of_find?_eq_some hs)] at this
    cases this
end Go.Proofs.Ytijniccmgjokoaa
