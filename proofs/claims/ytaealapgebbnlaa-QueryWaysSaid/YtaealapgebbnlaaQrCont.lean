/- slices.Contains and slices.ContainsFunc at strings. -/
import Derived.Test.YtaealapgebbnlaaQrQuery
set_option linter.unusedVariables false
namespace Go.Proofs.Ytaealapgebbnlaa
open Go.RowKit Go.Mem Go.Md Go.Maps
theorem contains_any (D : Nat → Prop) (A : Option Addr) (n c : Nat) (l : List Bs) (s : Bs) (w : World) (hr : Reads w D 1 A n (l.map bst)) (hn : n ≤ 100000) :
    Calls Try.prog 8 #[.slice A n c, bst s] w fun e w' => e = .returned (.bool (decide (s ∈ l))) ∧ w = w' := by
  have hl : n = l.length := by have := hr.1; simpa using this.symm
  rcases Nat.eq_zero_or_pos n with h0 | h0
  · subst h0
    obtain rfl : l = [] := List.eq_nil_of_length_eq_zero hl.symm
    refine (Try.slices_Contains_string_empty A c _ w).mono ?_
    rintro e w' ⟨rfl, rfl⟩
    exact ⟨by simp, rfl⟩
  · obtain ⟨b, off, rfl, _, _⟩ := hr.2 (by omega)
    refine (Try.slices_Contains_string b off n c (l.map fun s => ByteArray.mk s.toArray) _ w (by simp; omega) (by omega) (strs_cells hr h0)).mono ?_
    rintro e w' ⟨rfl, rfl⟩
    refine ⟨?_, rfl⟩
    congr 2
    rw [Bool.eq_iff_iff, Lib.containsS_iff, List.take_of_length_le (by simp; omega), decide_eq_true_eq, List.mem_map]
    constructor
    · rintro ⟨t, ht, e⟩
      have : t = s := by
        injection e with e
        have := congrArg Array.toList e
        simpa using this
      exact this ▸ ht
    · exact fun h => ⟨s, h, rfl⟩
set_option maxRecDepth 100000 in
theorem indexNone_any (A : Option Addr) (n c : Nat) (l : List Bs) (g : Nat) (cb : Array Value) (w : World) (hr : Reads w Any 1 A n (l.map bst)) (hn : n = l.length) (hn1 : n ≤ 100000)
    (eg : ∀ args w, (callFunc g args).run Try.prog w = .ok (.enter g args) w)
    (hp : ∀ s ∈ l, ∀ W, Below w.heap.size w W → Calls Try.prog g (#[bst s] ++ cb) W fun e w' => e = .returned (.bool false) ∧ Below W.heap.size W w') :
    Calls Try.prog 20 #[.slice A n c, .func (.func g) #[] cb] w fun e w' => e = .returned (.int .i64 (-1)) ∧ Below w.heap.size w w' := by
  have Hn := Lib.hid hn
  have H := Lib.hid hp
  have HR := Lib.hid hr
  clear hn hp hr
  go_enter Try.func20, Try.ntmps20
  go_wp2_with (fail)
  go_loopw [8] (fun v wr => ∃ j : Nat, j ≤ n ∧ v = .int .i64 j ∧ Hid (Below w.heap.size w wr)) (fun v _ => n - (intOf v).toNat)
  case atStart => exact ⟨0, Nat.zero_le _, rfl, Below.refl _ _⟩
  case round =>
    obtain ⟨j, hj, rfl, HB⟩ := hrel
    by_cases hlt : j < n
    · obtain ⟨b1, o1, u, rfl, _, hu, p0⟩ := (HR.out.keep (Same.any HB.out)).at_ hlt
      have hl : j < l.length := by have := Hn.out; omega
      obtain ⟨S, hS⟩ : ∃ S : ByteArray, S = ⟨(l[j]).toArray⟩ := ⟨_, rfl⟩
      have hu2 : u = .string S := by
        rw [List.getElem?_map, List.getElem?_eq_getElem hl] at hu
        rw [hS]
        injection hu with hu
        exact hu.symm
      subst hu2
      have R1 := H.out l[j] (List.getElem_mem hl) wr HB.out
      rw [show bst l[j] = .string S from by rw [hS]] at R1
      replace R1 := Lib.hid R1
      have lp := lt_of_cell p0
      clear hS hu
      go_wp2_with (go_at_fn g; refine R1.out.mono ?_; rintro e w2 ⟨rfl, hb2⟩; replace hb2 := Lib.hid hb2)
      have HB2 := HB.out.trans (hb2.out.mono HB.out.size)
      exact ⟨⟨j + 1, by omega, by go_num, ⟨HB2.os, HB2.tape, HB2.output, HB2.size, HB2.block⟩⟩, by simp [intOf]; omega⟩
    · obtain rfl : j = n := by omega
      go_wp2_with (fail)
      go_ret
      exact ⟨rfl, HB.out⟩
theorem containsNone_any (A : Option Addr) (n c : Nat) (l : List Bs) (g : Nat) (cb : Array Value) (w : World) (hr : Reads w Any 1 A n (l.map bst)) (hn : n = l.length) (hn1 : n ≤ 100000)
    (eg : ∀ args w, (callFunc g args).run Try.prog w = .ok (.enter g args) w)
    (hp : ∀ s ∈ l, ∀ W, Below w.heap.size w W → Calls Try.prog g (#[bst s] ++ cb) W fun e w' => e = .returned (.bool false) ∧ Below W.heap.size W w') :
    Calls Try.prog 9 #[.slice A n c, .func (.func g) #[] cb] w fun e w' => e = .returned (.bool false) ∧ Below w.heap.size w w' := by
  have IX := Lib.hid (indexNone_any A n c l g cb w hr hn hn1 eg hp)
  clear hr hn hp eg
  go_enter Try.func9, Try.ntmps9
  go_wp2_with (fail)
  refine IX.out.mono ?_
  rintro e w' ⟨rfl, hb⟩
  go_wp2_with (fail)
  go_ret
  exact ⟨rfl, hb⟩
/-- the law's closure: whether a name is not in x -/
theorem notIn_any (XB : Nat) (A : Option Addr) (n c : Nat) (l : List Bs) (s : Bs) (w : World) (hx : w.cell? ⟨XB, 0, none⟩ = some (.slice A n c)) (hr : Reads w Any 1 A n (l.map bst)) (hn : n ≤ 100000) (hs : s ∈ l) :
    Calls Try.prog 10 #[bst s, .pointer (some ⟨XB, 0, none⟩)] w fun e w' => e = .returned (.bool false) ∧ Below w.heap.size w w' := by
  have CT := Lib.hid (contains_any Any A n c l s w hr hn)
  have HS := Lib.hid hs
  have lx := lt_of_cell hx
  obtain ⟨S, hS⟩ : ∃ S : ByteArray, S = ⟨s.toArray⟩ := ⟨_, rfl⟩
  rw [show bst s = .string S from by rw [hS]] at CT ⊢
  clear hs hr hS
  go_enter Try.func10, Try.ntmps10
  go_wp2_with (fail)
  refine CT.out.mono ?_
  rintro e w1 ⟨rfl, rfl⟩
  rw [decide_eq_true HS.out]
  go_wp2_with (fail)
  go_ret
  exact ⟨rfl, Below.refl _ _⟩
end Go.Proofs.Ytaealapgebbnlaa
