/- Contracts of the small helpers: rest, slices.Clone of bytes, cut. -/
import Derived.Test.YtgcpclbkjplipaaProg
import Derived.Test.YtgcpclbkjplipaaMem
import Derived.KernelRfl
import Derived.WalkSpells
set_option linter.unusedVariables false
namespace Go.Proofs.Ytgcpclbkjplipaa
open Go.RowKit Go.Mem

/-- rest of a raw number. -/
def restI (n many : Int) : Int := if n < 0 then (-(n + 1)) % many else n % many
theorem restI_bd (n many : Int) (h : 0 < many) : 0 ≤ restI n many ∧ restI n many < many := by
  unfold restI
  split
  · exact ⟨Int.emod_nonneg _ (by omega), Int.emod_lt_of_pos _ h⟩
  · exact ⟨Int.emod_nonneg _ (by omega), Int.emod_lt_of_pos _ h⟩
/-- an int fits 64 bits -/
def I64 (n : Int) : Prop := -9223372036854775808 ≤ n ∧ n ≤ 9223372036854775807

theorem rest_any (n many : Int) (w : World) (hn : I64 n) (hm : 0 < many) (hm2 : many ≤ 9223372036854775807) :
    Calls Try.prog 17 #[.int .i64 n, .int .i64 many] w fun e w' => e = .returned (.int .i64 (restI n many)) ∧ w = w' := by
  obtain ⟨hn1, hn2⟩ := hn
  by_cases h : n < 0
  · have e : Hid (restI n many = (-(n + 1)) % many) := by unfold Hid restI; rw [if_pos h]
    have h0 : (many == 0) = false := by simp; omega
    go_enter Try.func17, Try.ntmps17
    go_wp2
    go_ret
    rw [e.out, ← Int.tmod_eq_emod_of_nonneg (by omega), Int.neg_tmod]
    exact ⟨rfl, rfl⟩
  · have e : Hid (restI n many = n % many) := by unfold Hid restI; rw [if_neg h]
    have h0 : (many == 0) = false := by simp; omega
    go_enter Try.func17, Try.ntmps17
    go_wp2
    go_ret
    rw [e.out]
    exact ⟨rfl, rfl⟩

/-- .. its result under a name -/
theorem rest_q (n many : Int) (w : World) (q : Int) (hn : I64 n) (hm : 0 < many) (hm2 : many ≤ 9223372036854775807) (hq : restI n many = q) :
    Calls Try.prog 17 #[.int .i64 n, .int .i64 many] w fun e w' => e = .returned (.int .i64 q) ∧ w = w' := by
  subst hq
  exact rest_any n many w hn hm hm2

theorem info_u8 : (Try.prog.info? 5).map (fun i => (i.zero, i.size, i.bytes)) = some (some (.int .u8 0), 1, 1) := by kernel_rfl

/-- append of bytes onto a row of the call's own -/
theorem app_u8 (w : World) {ops : Array Oper} {rest : List Oper} {o : Oper} {a : Act} {Q : Exit → Act → World → Prop} (hgd : o.guard = none) (s x : Operand)
    (ho : o.op = .call { callee := .builtin .append, args := #[s, x], argTypes := #[23, 23] })
    {base : Nat} {v : Value} {n : Nat} {xs : List Value} (hown : w.ownsRow base 5 1 v n xs) (hs : a.eval s = v)
    {D : Nat → Prop} {A : Option Addr} {m : Nat} {news : List Value} (hr : Reads w D 1 A m news) {c : Nat} (hx : a.eval x = .slice A m c) (h1 : ∀ u ∈ news, u.oneCell' = true)
    (h63 : n + m ≤ 70368744177664) (hbase : base ≤ w.heap.size)
    (h : ∀ v' w', w'.ownsRow base 5 1 v' (n + m) (xs ++ news) → w.grownBy w' v.ownBlock → (v'.ownBlock = v.ownBlock ∨ v'.ownBlock = some w.heap.size) → wpList Try.prog ops Q rest (a.put o.dst v') w') : wpList Try.prog ops Q (o :: rest) a w := by
  obtain ⟨i0, hi0, hz0, hz1, hz2⟩ := info_parts info_u8
  exact wpList_append_any w hgd s x _ ho base _ i0 _ 1 1 Try.underlying23 hi0 hz0 hz1 hz2 rfl (by omega) v n xs hs hown D A m c news hx hr h1 (by simp only [maxLen]; omega) (by omega) hbase h

set_option maxRecDepth 100000 in
set_option maxHeartbeats 400000 in
/-- slices.Clone at bytes: nil for nil, else a row of the call's own. -/
theorem clone_any (A : Option Addr) (n c : Nat) (xs : List Value) (D : Nat → Prop) (w : World) (hr : Reads w D 1 A n xs) (h1 : ∀ u ∈ xs, u.oneCell' = true)
    (hn : n ≤ 70368744177664) :
    Calls Try.prog 30 #[.slice A n c] w fun e w' => ∃ A c, e = .returned (.slice A n c) ∧ w'.ownsRow w.heap.size 5 1 (.slice A n c) n xs ∧ Below w.heap.size w w' := by
  have Hn := Lib.hid hn
  clear hn
  have q : ∀ (w : World) (a : Option Addr) (n c : Nat), (binOp .eql 23 (.slice a n c) (.slice none 0 0)).run Try.prog w = .ok (.bool a.isNone) w := fun w a n c => Lib.run_eql_slice_nil w _ _ a n c 0 0 Try.underlying23
  rcases A with _ | ad
  · obtain rfl := hr.nil_len
    go_enter Try.func30, Try.ntmps30
    go_wp2
    go_ret
    have hx : xs = [] := List.eq_nil_of_length_eq_zero (by simpa using hr.1)
    subst hx
    exact ⟨none, 0, rfl, World.ownsRow_nil _ _ _ _, Below.refl _ _⟩
  · go_enter Try.func30, Try.ntmps30
    go_wp2_with (at_builtin; refine app_u8 _ rfl (.tmp 5) (.tmp 6) rfl (World.ownsRow_made w #[] 0 (Nat.le_refl _) (Nat.zero_le _) rfl) rfl (hr.keep (Same.alloc _ _ _)) rfl h1 (by have := Hn.out; omega) (by simp) ?_; intro v1 w1 hown1 hg1 hat1)
    go_ret
    simp only [Nat.zero_add, List.nil_append] at hown1
    obtain ⟨A1, c1, rfl, _⟩ := own_form hown1
    refine ⟨A1, c1, rfl, hown1, ((Below.refl _ _).alloc (Nat.le_refl _) _).grown hg1 (by simp) (by simp [Value.ownBlock])⟩

/-- cut bytes to so many at most: a copy. -/
theorem cut_any (A : Option Addr) (n c : Nat) (xs : List Value) (D : Nat → Prop) (w : World) (m : Nat) (hr : Reads w D 1 A n xs) (h1 : ∀ u ∈ xs, u.oneCell' = true)
    (hnc : n ≤ c) (hc : c ≤ maxLen) (hm : m ≤ 65536) :
    Calls Try.prog 14 #[.slice A n c, .int .i64 m] w fun e w' => ∃ A c, e = .returned (.slice A (min n m) c) ∧ w'.ownsRow w.heap.size 5 1 (.slice A (min n m) c) (min n m) (xs.take m) ∧ Below w.heap.size w w' := by
  unfold maxLen at hc
  by_cases h : m < n
  · go_enter Try.func14, Try.ntmps14
    go_wp2_with (fail)
    refine (clone_any A m c (xs.take m) D w (by simpa using hr.first (Nat.le_of_lt h)) (fun u hu => h1 u (List.mem_of_mem_take hu)) (by omega)).mono ?_
    rintro e w' ⟨A1, c1, rfl, hv, hb⟩
    go_wp2
    go_ret
    rw [Nat.min_eq_right (by omega)]
    exact ⟨A1, c1, rfl, hv, hb⟩
  · go_enter Try.func14, Try.ntmps14
    go_wp2_with (fail)
    refine (clone_any A n c xs D w hr h1 (by omega)).mono ?_
    rintro e w' ⟨A1, c1, rfl, hv, hb⟩
    go_wp2
    go_ret
    rw [Nat.min_eq_left (by omega), List.take_of_length_le (by have := hr.len; omega)]
    exact ⟨A1, c1, rfl, hv, hb⟩
end Go.Proofs.Ytgcpclbkjplipaa
