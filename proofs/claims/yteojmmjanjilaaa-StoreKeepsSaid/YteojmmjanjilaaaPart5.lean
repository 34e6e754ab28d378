/- Plain laws of packing: packed byte strings, cut off anywhere, and scanned. No condition but the lengths. · Contracts of the small helpers: rest, slices.Clone of bytes, cut. · append of a string's bytes onto a row of the call's own: where the new row lies. Over any program. -/
import Derived.Test.YteojmmjanjilaaaMem
import Derived.Test.YteojmmjanjilaaaProg
import Derived.KernelRfl
import Derived.WalkSpells
import Derived.Lib.AppendStr
set_option linter.unusedVariables false
namespace Go.Chunk
def hi8 (n : Nat) : UInt8 := UInt8.ofNat (n / 256)
def lo8 (n : Nat) : UInt8 := UInt8.ofNat (n % 256)
def packF : List (List UInt8) → List UInt8
  | [] => []
  | b :: r => hi8 b.length :: lo8 b.length :: (b ++ packF r)
def scanF : Nat → List UInt8 → List (List UInt8)
  | 0, _ => []
  | f + 1, a :: b :: r => if a.toNat * 256 + b.toNat ≤ r.length then r.take (a.toNat * 256 + b.toNat) :: scanF f (r.drop (a.toNat * 256 + b.toNat)) else []
  | _ + 1, _ => []
def sizeF (l : List (List UInt8)) : Nat := (l.map fun p => 2 + p.length).sum

theorem packF_append (a b : List (List UInt8)) : packF (a ++ b) = packF a ++ packF b := by
  induction a with
  | nil => rfl
  | cons x r ih => simp [packF, ih]
theorem packF_length (l : List (List UInt8)) : (packF l).length = sizeF l := by
  induction l with
  | nil => rfl
  | cons x r ih => simp [packF, sizeF, ih]; simp [sizeF] at ih; omega
theorem sizeF_append (a b : List (List UInt8)) : sizeF (a ++ b) = sizeF a + sizeF b := by simp [sizeF]
theorem sizeF_le (l : List (List UInt8)) (m : Nat) (h : ∀ p ∈ l, p.length ≤ m) : sizeF l ≤ l.length * (2 + m) := by
  induction l with
  | nil => simp [sizeF]
  | cons x r ih =>
    have h1 := h x (by simp)
    have h2 := ih fun p hp => h p (by simp [hp])
    simp [sizeF, Nat.add_mul] at h2 ⊢
    omega
theorem sizeF_len (l : List (List UInt8)) : l.length ≤ sizeF l := by
  induction l with
  | nil => simp
  | cons x r ih => simp [sizeF] at ih ⊢; omega
theorem len_back (n : Nat) (h : n ≤ 65535) : (hi8 n).toNat * 256 + (lo8 n).toNat = n := by
  simp [hi8, lo8]
  omega

/-- one step of a scan -/
theorem scanF_step (f : Nat) (a b : UInt8) (r : List UInt8) (n : Nat) (hn : a.toNat * 256 + b.toNat = n) (h : n ≤ r.length) : scanF (f + 1) (a :: b :: r) = r.take n :: scanF f (r.drop n) := by
  subst hn
  simp [scanF, h]
theorem scanF_stop (f : Nat) (a b : UInt8) (r : List UInt8) (n : Nat) (hn : a.toNat * 256 + b.toNat = n) (h : r.length < n) : scanF f (a :: b :: r) = [] := by
  subst hn
  cases f with
  | zero => rfl
  | succ f => simp [scanF]; omega
theorem scanF_short (f : Nat) (r : List UInt8) (h : r.length < 2) : scanF f r = [] := by
  cases f with
  | zero => rfl
  | succ f =>
    match r, h with
    | [], _ => rfl
    | [_], _ => rfl

/-- a scan of a beginning of packed byte strings: the first ones that are whole -/
theorem scan_take (x : List (List UInt8)) : ∀ (f r : Nat), (∀ p ∈ x, p.length ≤ 65535) → r ≤ f → ∃ k, k ≤ x.length ∧ scanF f ((packF x).take r) = x.take k ∧ sizeF (x.take k) ≤ r ∧
    (∀ h : k < x.length, r < sizeF (x.take k) + 2 + x[k].length) := by
  induction x with
  | nil => intro f r _ _; exact ⟨0, by simp, by cases f <;> simp [packF, scanF], by simp [sizeF], fun h => by simp at h⟩
  | cons p ps ih =>
    intro f r hx hf
    have hp := hx p (by simp)
    by_cases h : r < 2 + p.length
    · refine ⟨0, by simp, ?_, by simp [sizeF], fun _ => by simp [sizeF]; omega⟩
      simp only [packF, List.take_zero]
      match r, h with
      | 0, _ => exact scanF_short _ _ (by simp)
      | 1, _ => exact scanF_short _ _ (by simp)
      | r + 2, h =>
        simp only [List.take_succ_cons]
        refine scanF_stop _ _ _ _ p.length (len_back _ hp) ?_
        simp
        omega
    · obtain ⟨q, rfl⟩ : ∃ q, r = q + p.length + 2 := ⟨r - p.length - 2, by omega⟩
      obtain ⟨f', rfl⟩ : ∃ f', f = f' + 1 := ⟨f - 1, by omega⟩
      obtain ⟨k, hk, h1, h2, h3⟩ := ih f' q (fun y hy => hx y (by simp [hy])) (by omega)
      refine ⟨k + 1, by simp; omega, ?_, ?_, ?_⟩
      · simp only [packF, List.take_succ_cons]
        rw [scanF_step _ _ _ _ p.length (len_back _ hp) (by simp; omega)]
        congr 1
        · rw [List.take_take, Nat.min_eq_left (by omega), List.take_left]
        · rw [← h1, List.drop_take, List.drop_left, Nat.add_sub_cancel]
      · simp only [List.take_succ_cons]
        simp only [sizeF, List.map_cons, List.sum_cons] at h2 ⊢
        omega
      · intro hlt
        have := h3 (by simp at hlt; omega)
        simp only [List.take_succ_cons, List.getElem_cons_succ]
        simp only [sizeF, List.map_cons, List.sum_cons] at this ⊢
        omega
end Go.Chunk
set_option linter.unusedVariables false
namespace Go.Proofs.Yteojmmjanjilaaa
open Go.RowKit Go.Mem

/-- rest of a raw number. -/
def restI (n many : Int) : Int := if n < 0 then (-(n + 1)) % many else n % many
theorem restI_bd (n many : Int) (h : 0 < many) : 0 ≤ restI n many ∧ restI n many < many := by
  unfold restI
  split
  · exact ⟨Int.emod_nonneg _ (by omega), Int.emod_lt_of_pos _ h⟩
  · exact ⟨Int.emod_nonneg _ (by omega), Int.emod_lt_of_pos _ h⟩
/-- an int fits 64 bits -/
def I64 (n : Int) : Prop := -9223372036854775808 ≤ n ∧ n ≤ 9223372036854775807

theorem rest_any (n many : Int) (w : World) (hn : I64 n) (hm : 0 < many) (hm2 : many ≤ 9223372036854775807) :
    Calls Try.prog 11 #[.int .i64 n, .int .i64 many] w fun e w' => e = .returned (.int .i64 (restI n many)) ∧ w = w' := by
  obtain ⟨hn1, hn2⟩ := hn
  by_cases h : n < 0
  · have e : Hid (restI n many = (-(n + 1)) % many) := by unfold Hid restI; rw [if_pos h]
    have h0 : (many == 0) = false := by simp; omega
    go_enter Try.func11, Try.ntmps11
    go_wp2
    go_ret
    rw [e.out, ← Int.tmod_eq_emod_of_nonneg (by omega), Int.neg_tmod]
    exact ⟨rfl, rfl⟩
  · have e : Hid (restI n many = n % many) := by unfold Hid restI; rw [if_neg h]
    have h0 : (many == 0) = false := by simp; omega
    go_enter Try.func11, Try.ntmps11
    go_wp2
    go_ret
    rw [e.out]
    exact ⟨rfl, rfl⟩

/-- .. its result under a name -/
theorem rest_q (n many : Int) (w : World) (q : Int) (hn : I64 n) (hm : 0 < many) (hm2 : many ≤ 9223372036854775807) (hq : restI n many = q) :
    Calls Try.prog 11 #[.int .i64 n, .int .i64 many] w fun e w' => e = .returned (.int .i64 q) ∧ w = w' := by
  subst hq
  exact rest_any n many w hn hm hm2

theorem info_u8 : (Try.prog.info? 5).map (fun i => (i.zero, i.size, i.bytes)) = some (some (.int .u8 0), 1, 1) := by kernel_rfl

/-- append of bytes onto a row of the call's own -/
theorem app_u8 (w : World) {ops : Array Oper} {rest : List Oper} {o : Oper} {a : Act} {Q : Exit → Act → World → Prop} (hgd : o.guard = none) (s x : Operand)
    (ho : o.op = .call { callee := .builtin .append, args := #[s, x], argTypes := #[62, 62] })
    {base : Nat} {v : Value} {n : Nat} {xs : List Value} (hown : w.ownsRow base 5 1 v n xs) (hs : a.eval s = v)
    {D : Nat → Prop} {A : Option Addr} {m : Nat} {news : List Value} (hr : Reads w D 1 A m news) {c : Nat} (hx : a.eval x = .slice A m c) (h1 : ∀ u ∈ news, u.oneCell' = true)
    (h63 : n + m ≤ 70368744177664) (hbase : base ≤ w.heap.size)
    (h : ∀ v' w', w'.ownsRow base 5 1 v' (n + m) (xs ++ news) → w.grownBy w' v.ownBlock → (v'.ownBlock = v.ownBlock ∨ v'.ownBlock = some w.heap.size) → wpList Try.prog ops Q rest (a.put o.dst v') w') : wpList Try.prog ops Q (o :: rest) a w := by
  obtain ⟨i0, hi0, hz0, hz1, hz2⟩ := info_parts info_u8
  exact wpList_append_any w hgd s x _ ho base _ i0 _ 1 1 Try.underlying62 hi0 hz0 hz1 hz2 rfl (by omega) v n xs hs hown D A m c news hx hr h1 (by simp only [maxLen]; omega) (by omega) hbase h

set_option maxRecDepth 100000 in
set_option maxHeartbeats 400000 in
/-- slices.Clone at bytes: nil for nil, else a row of the call's own. -/
theorem clone_any (A : Option Addr) (n c : Nat) (xs : List Value) (D : Nat → Prop) (w : World) (hr : Reads w D 1 A n xs) (h1 : ∀ u ∈ xs, u.oneCell' = true)
    (hn : n ≤ 70368744177664) :
    Calls Try.prog 53 #[.slice A n c] w fun e w' => ∃ A c, e = .returned (.slice A n c) ∧ w'.ownsRow w.heap.size 5 1 (.slice A n c) n xs ∧ Below w.heap.size w w' := by
  have Hn := Lib.hid hn
  clear hn
  have q : ∀ (w : World) (a : Option Addr) (n c : Nat), (binOp .eql 62 (.slice a n c) (.slice none 0 0)).run Try.prog w = .ok (.bool a.isNone) w := fun w a n c => Lib.run_eql_slice_nil w _ _ a n c 0 0 Try.underlying62
  rcases A with _ | ad
  · obtain rfl := hr.nil_len
    go_enter Try.func53, Try.ntmps53
    go_wp2
    go_ret
    have hx : xs = [] := List.eq_nil_of_length_eq_zero (by simpa using hr.1)
    subst hx
    exact ⟨none, 0, rfl, World.ownsRow_nil _ _ _ _, Below.refl _ _⟩
  · go_enter Try.func53, Try.ntmps53
    go_wp2_with (at_builtin; refine app_u8 _ rfl (.tmp 5) (.tmp 6) rfl (World.ownsRow_made w #[] 0 (Nat.le_refl _) (Nat.zero_le _) rfl) rfl (hr.keep (Same.alloc _ _ _)) rfl h1 (by have := Hn.out; omega) (by simp) ?_; intro v1 w1 hown1 hg1 hat1)
    go_ret
    simp only [Nat.zero_add, List.nil_append] at hown1
    obtain ⟨A1, c1, rfl, _⟩ := own_form hown1
    refine ⟨A1, c1, rfl, hown1, ((Below.refl _ _).alloc (Nat.le_refl _) _).grown hg1 (by simp) (by simp [Value.ownBlock])⟩

end Go.Proofs.Yteojmmjanjilaaa
set_option linter.unusedVariables false
namespace Go.Mem
open Go.RowKit
theorem blks2 (w : World) (t1 t2 : TypeId) (c1 c2 : List Value) (W : World) (hW : W = (w.alloc (.cells c1.toArray t1)).alloc (.cells c2.toArray t2)) :
    Blk W w.heap.size t1 c1 ∧ Blk W (w.heap.size + 1) t2 c2 ∧ Below w.heap.size w W ∧ W.heap.size = w.heap.size + 1 + 1 := by
  subst hW
  have b1 := Blk.new w t1 c1
  have b2 := Blk.new (w.alloc (.cells c1.toArray t1)) t2 c2
  refine ⟨b1.alloc _, by simpa using b2, ((Below.refl _ _).alloc (Nat.le_refl _) _).alloc (by simp) _, by simp⟩
theorem Reads.new_at (w : World) (cs : List Value) (size n : Nat) (e : TypeId) (D : Nat → Prop) (g : Nat) (hg : g = w.heap.size) (hD : D g) (hl : cs.length = n * size) : Reads (w.alloc (.cells cs.toArray e)) D size (some ⟨g, 0, none⟩) n cs := by
  subst hg
  exact Reads.new w cs size n e D hD hl
section
variable {P : Program} (w : World)
theorem run_append_str (base : Nat) (t u ty e : TypeId) (i : TypeInfo) (ht : P.underlying t = some (.slice e)) (hu : P.underlying u = some .string) (hi : P.info? e = some i) (hz : i.zero = some (.int .u8 0))
    (hsize : i.size = 1) (hby : i.bytes = 1) (v : Value) (n : Nat) (xs : List Value) (hown : w.ownsRow base e 1 v n xs) (s : ByteArray)
    (h63 : n + s.size ≤ maxLen) (hbytes : n + s.size ≤ 140737488355328) (hbase : base ≤ w.heap.size) :
    ∃ v' w', (Builtin.append_ #[t, u] ty #[v, .string s]).run P w = .ok v' w' ∧ w'.ownsRow base e 1 v' (n + s.size) (xs ++ u8s s.data.toList) ∧ w.grownBy w' v.ownBlock ∧
      (v'.ownBlock = v.ownBlock ∨ v'.ownBlock = some w.heap.size) := by
  obtain ⟨v', w', hr, h2, h3, h4⟩ := Lib.run_append_own_string (P := P) w base t u ty e i ht hu hi hz hsize hby v n xs hown s h63 hbytes hbase
  refine ⟨v', w', hr, h2, h3, ?_⟩
  have hsmall : n + s.size ≤ 9223372036854775807 := by simp only [maxLen] at h63; omega
  rcases hown.2 with ⟨rfl, rfl⟩ | ⟨g, cap, cur, rfl, hbg, hg, hnc, hcm, hcs, htake⟩
  · by_cases hm : s.size = 0
    · rw [h4.2 ⟨rfl, hm⟩]
      exact .inl rfl
    · have hr2 := run_append_nil_string (P := P) w t u ty e i (.int .u8 0) ht hu hi hz s (by omega) (by omega) (by rw [hby]; omega)
      rw [hr2] at hr
      injection hr with e1
      subst e1
      exact .inr rfl
  · by_cases hroom : n + s.size ≤ cap
    · have hcs' : cur.size = cap := by simpa using hcs
      have hr2 := Lib.run_append_room_string (P := P) w t u ty e i ht hu hi hsize g n cap cur hg s hroom (by omega)
      rw [hr2] at hr
      injection hr with e1
      subst e1
      exact .inl rfl
    · have hxl : xs.length = n := by simpa using hown.1
      have holds : ∀ j u, xs[j]? = some u → w.cell? ((⟨g, 0, none⟩ : Addr).add j) = some u := hown.cells (g := g) rfl
      have hr2 := Lib.run_append_grow_string (P := P) w t u ty e i (.int .u8 0) ht hu hi hz ⟨g, 0, none⟩ n cap xs (by rw [hsize]; simpa using hxl) holds s (by omega) (by omega) (by rw [hby]; exact growslice_fits (by omega) (by omega))
      rw [hr2] at hr
      injection hr with e1
      subst e1
      exact .inr rfl
theorem wpList_append_str {ops : Array Oper} {rest : List Oper} {o : Oper} {a : Act} {Q : Exit → Act → World → Prop} (hgd : o.guard = none) (sl x : Operand) (t u : TypeId)
    (ho : o.op = .call { callee := .builtin .append, args := #[sl, x], argTypes := #[t, u] })
    (base : Nat) (e : TypeId) (i : TypeInfo) (ht : P.underlying t = some (.slice e)) (hu : P.underlying u = some .string) (hi : P.info? e = some i) (hz : i.zero = some (.int .u8 0))
    (hsize : i.size = 1) (hby : i.bytes = 1)
    (v : Value) (n : Nat) (xs : List Value) (hs : a.eval sl = v) (hown : w.ownsRow base e 1 v n xs) (s : ByteArray) (hx : a.eval x = .string s)
    (h63 : n + s.size ≤ maxLen) (hbytes : n + s.size ≤ 140737488355328) (hbase : base ≤ w.heap.size)
    (h : ∀ v' w', w'.ownsRow base e 1 v' (n + s.size) (xs ++ u8s s.data.toList) → w.grownBy w' v.ownBlock → (v'.ownBlock = v.ownBlock ∨ v'.ownBlock = some w.heap.size) → wpList P ops Q rest (a.put o.dst v') w') : wpList P ops Q (o :: rest) a w := by
  refine wpList_plain hgd fun K hK => ?_
  obtain ⟨v', w', hr, h2, h3, h4⟩ := run_append_str (P := P) w base t u o.type e i ht hu hi hz hsize hby v n xs hown s h63 hbytes hbase
  unfold Oper.wp execOp
  simp only [ho, resolve, invoke, builtin, Sem.run_bind, Sem.run_pure, Result.andThen_ok, List.map_toArray, List.map_cons, List.map_nil, hs, hx, hr]
  exact hK _ _ (h v' w' h2 h3 h4)
end
end Go.Mem
