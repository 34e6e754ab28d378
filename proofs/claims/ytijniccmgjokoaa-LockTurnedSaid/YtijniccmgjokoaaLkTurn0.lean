/- Turns in memory; the map of turns; its sorted keys. -/
import Derived.Test.YtijniccmgjokoaaLkTurnLaw
set_option linter.unusedVariables false
namespace Go.Sv
open Go.Mem
def trc (t : Tr) : List Value := [str t.1, .int .i64 (t.2.1 : Nat), .int .i64 (t.2.2 : Nat)]
def trs (l : List Tr) : List Value := (l.map trc).flatten
def trv (n : Nm) (o v : Nat) : Value := .agg #[str n, .int .i64 (o : Nat), .int .i64 (v : Nat)]
theorem trs_at (l : List Tr) (k j : Nat) (hk : k < l.length) (hj : j < 3) : (trs l)[k * 3 + j]? = (trc l[k])[j]? :=
  flatten_at (size := 3) (vss := l.map trc) (fun c hc => by obtain ⟨d, _, rfl⟩ := List.mem_map.1 hc; rfl) (k := k) (c := trc l[k]) (by rw [List.getElem?_map, List.getElem?_eq_getElem hk]; rfl) j hj
theorem trs_append (a b : List Tr) : trs (a ++ b) = trs a ++ trs b := by simp [trs]
theorem trs_one (t : Tr) : trs [t] = trc t := by simp [trs]
theorem trs_cells {w : World} {D : Nat → Prop} {A : Option Addr} {n : Nat} {l : List Tr} (h : Reads w D 3 A n (trs l)) {k : Nat} (hk : k < n) (hn : n = l.length) :
    ∃ b off, A = some ⟨b, off, none⟩ ∧ D b ∧ w.cell? ⟨b, off + k * 3, none⟩ = some (str (l[k]'(by omega)).1) ∧ w.cell? ⟨b, off + k * 3 + 1, none⟩ = some (.int .i64 ((l[k]'(by omega)).2.1 : Nat)) ∧ w.cell? ⟨b, off + k * 3 + 2, none⟩ = some (.int .i64 ((l[k]'(by omega)).2.2 : Nat)) := by
  obtain ⟨b, off, e, hD, hc⟩ := h.2 (by omega)
  have hl : k < l.length := by omega
  have h0 := hc (k * 3 + 0) _ (trs_at l k 0 hl (by omega))
  have h1 := hc (k * 3 + 1) _ (trs_at l k 1 hl (by omega))
  have h2 := hc (k * 3 + 2) _ (trs_at l k 2 hl (by omega))
  exact ⟨b, off, e, hD, h0, by rw [Nat.add_assoc]; exact h1, by rw [Nat.add_assoc]; exact h2⟩
/-- the map of turns -/
def GetT (a b : List Pk) (L : List (Nm × Value)) : Prop := ∀ n, (mget L n = none ∧ (∀ q ∈ a, q.1 ≠ n) ∧ ∀ q ∈ b, q.1 ≠ n) ∨ mget L n = some (trv n (vOf a n) (vOf b n))
theorem GetT.nil : GetT [] [] [] := fun n => .inl ⟨rfl, by simp, by simp⟩
theorem GetT.put1 {a : List Pk} {L : List (Nm × Value)} {p : Pk} (h : GetT a [] L) (hp : ∀ q ∈ a, q.1 ≠ p.1) : GetT (a ++ [p]) [] (mput L p.1 (trv p.1 p.2 0)) := by
  intro n
  rw [mget_put, vOf_snoc hp]
  by_cases e : n = p.1
  · subst e
    exact .inr (by rw [if_pos rfl, if_pos rfl, vOf_nil])
  · rw [if_neg e, if_neg e]
    rcases h n with ⟨h1, h2, h3⟩ | h1
    · refine .inl ⟨h1, fun q hq => ?_, h3⟩
      rcases List.mem_append.1 hq with hq | hq
      · exact h2 q hq
      · rw [List.mem_singleton] at hq
        subst hq
        exact fun h => e h.symm
    · exact .inr h1
theorem GetT.put2 {a b : List Pk} {L : List (Nm × Value)} {p : Pk} (h : GetT a b L) (hp : ∀ q ∈ b, q.1 ≠ p.1) : GetT a (b ++ [p]) (mput L p.1 (trv p.1 (vOf a p.1) p.2)) := by
  intro n
  rw [mget_put, vOf_snoc hp]
  by_cases e : n = p.1
  · subst e
    exact .inr (by rw [if_pos rfl, if_pos rfl])
  · rw [if_neg e, if_neg e]
    rcases h n with ⟨h1, h2, h3⟩ | h1
    · refine .inl ⟨h1, h2, fun q hq => ?_⟩
      rcases List.mem_append.1 hq with hq | hq
      · exact h3 q hq
      · rw [List.mem_singleton] at hq
        subst hq
        exact fun h => e h.symm
    · exact .inr h1
theorem GetT.old {a b : List Pk} {L : List (Nm × Value)} (h : GetT a b L) (n : Nm) : ∃ m v, (mget L n).getD (trv [] 0 0) = trv m (vOf a n) v := by
  rcases h n with ⟨h1, h2, h3⟩ | h1
  · exact ⟨[], 0, by rw [h1, vOf_none h2]; rfl⟩
  · exact ⟨n, vOf b n, by rw [h1]; rfl⟩
theorem GetT.in {a b : List Pk} {L : List (Nm × Value)} (h : GetT a b L) {n : Nm} (hn : n ∈ L.map (·.1)) : mget L n = some (trv n (vOf a n) (vOf b n)) := by
  rcases h n with ⟨h1, _⟩ | h1
  · obtain ⟨p, hp, rfl⟩ := List.mem_map.1 hn
    exact absurd rfl (mget_none.1 h1 p hp)
  · exact h1
theorem GetT.out {a b : List Pk} {L : List (Nm × Value)} (h : GetT a b L) {n : Nm} (hn : n ∉ L.map (·.1)) : vOf a n = vOf b n := by
  rcases h n with ⟨h1, h2, h3⟩ | h1
  · rw [vOf_none h2, vOf_none h3]
  · exact absurd (List.mem_map.2 ⟨_, mget_mem h1, rfl⟩) hn
theorem mput_le {α β : Type} [DecidableEq α] (l : List (α × β)) (a : α) (v : β) : (mput l a v).length ≤ l.length + 1 := by
  unfold mput
  split <;> simp
end Go.Sv
namespace Go.Proofs.Ytijniccmgjokoaa
open Go.RowKit Go.Mem Go.Sv Go.Maps
theorem info_tr : (Try.prog.info? 34).map (fun i => (i.zero, i.size, i.bytes)) = some (some (.agg #[.string ⟨#[]⟩, .int .i64 0, .int .i64 0]), 3, 32) := by kernel_rfl
theorem zero_tr : ∀ w : World, (zeroValue 34).run Try.prog w = .ok (trv [] 0 0) w := fun _ => by kernel_rfl
theorem app_tr (w : World) {ops : Array Oper} {rest : List Oper} {o : Oper} {a : Act} {Q : Exit → Act → World → Prop} (hgd : o.guard = none) (s x : Operand)
    (ho : o.op = .call { callee := .builtin .append, args := #[s, x], argTypes := #[28, 28] })
    {base : Nat} {v : Value} {n : Nat} {xs : List Value} (hown : w.ownsRow base 34 3 v n xs) (hs : a.eval s = v)
    {D : Nat → Prop} {A : Option Addr} {m : Nat} {news : List Value} (hr : Reads w D 3 A m news) {c : Nat} (hx : a.eval x = .slice A m c) (h1 : ∀ u ∈ news, u.oneCell' = true)
    (h63 : n + m ≤ 1099511627776) (hbase : base ≤ w.heap.size)
    (h : ∀ v' w', w'.ownsRow base 34 3 v' (n + m) (xs ++ news) → w.grownBy w' v.ownBlock → (v'.ownBlock = v.ownBlock ∨ v'.ownBlock = some w.heap.size) → wpList Try.prog ops Q rest (a.put o.dst v') w') : wpList Try.prog ops Q (o :: rest) a w := by
  obtain ⟨i0, hi0, hz0, hz1, hz2⟩ := info_parts info_tr
  exact wpList_append_any w hgd s x _ ho base _ i0 _ 3 32 Try.underlying28 hi0 hz0 hz1 hz2 rfl (by omega) v n xs hs hown D A m c news hx hr h1 (by simp only [maxLen]; omega) (by omega) hbase h
theorem keysLC (mb : Option Nat) (W : World) : Calls Try.prog 25 #[.map mb] W fun e w' => e = .returned (.func (.func 45) #[] #[.pointer (some ⟨W.heap.size, 0, none⟩)]) ∧ w' = W.alloc (.cells #[.map mb] 58) :=
  callsIn_wide.1 (Try.maps_Keys_Lk mb W)
theorem sortedLC (b : Nat) (l : List (Nm × Value)) (w : World) (h : MapOf str okS w b l) (hl : l.length ≤ 1000) :
    Calls Try.prog 24 #[.func (.func 45) #[] #[.pointer (some ⟨w.heap.size, 0, none⟩)]] (w.alloc (.cells #[.map (some b)] 58)) fun e w' =>
      ∃ A c, e = .returned (.slice A l.length c) ∧ Reads w' Any 1 A l.length ((sorted (l.map (·.1))).map str) ∧ Below (w.alloc (.cells #[.map (some b)] 58)).heap.size (w.alloc (.cells #[.map (some b)] 58)) w' := by
  obtain ⟨D0, h1, h2, h3⟩ := MapOf.owns Try.underlying9 (fun n hn => by unfold okS at hn; unfold maxLen; omega) h (by unfold maxLen; omega)
  refine (callsIn_wide.1 (Try.slices_Sorted_keys_Lk b _ D0 _ w h1 (by rw [h2]; unfold maxLen; omega) (by rw [h2]; omega))).mono ?_
  rintro e w' ⟨v, ss, rfl, hS, hrow, hnil, hb⟩
  have hp : ss.Perm (l.map (·.1)) := hS.trans h3
  have e1 : ss.mergeSort (fun x y => decide (x ≤ y)) = sorted (l.map (·.1)) := mergeSort_of_perm hp
  have e2 : ss.length = l.length := by have := hp.length_eq; simpa using this
  rw [e1, e2] at hrow
  obtain ⟨A, c, rfl, h4, h5⟩ := own_form hrow
  obtain ⟨q1, q2, q3⟩ := own_reads (by omega) hrow
  exact ⟨A, c, rfl, q3.imp (by omega) fun _ _ _ => trivial, hb⟩
end Go.Proofs.Ytijniccmgjokoaa
