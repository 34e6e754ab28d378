/- Contracts of package store's numbers and parts: number, read, part, cut. · Contract of chunk.Pack at short byte strings: it returns their packed form. -/
import Derived.Test.YtgcpclbkjplipaaPart34
import Derived.Test.YtgcpclbkjplipaaWire
import Derived.Test.YtgcpclbkjplipaaRd
import Derived.Test.YtgcpclbkjplipaaPart2
set_option linter.unusedVariables false
namespace Go.Proofs.Ytgcpclbkjplipaa
open Go.RowKit Go.Mem Go.Val

set_option maxRecDepth 100000 in
set_option maxHeartbeats 1000000 in
theorem number_any (v : Value) (n size : Nat) (xs : List Value) (base : Nat) (w : World) (hn : n ≤ 1099511627776) (hs : size ≤ 8) (hown : w.ownsRow base 5 1 v xs.length xs) (hb : base ≤ w.heap.size) (hx : xs.length ≤ 1099511627776) :
    Calls Try.prog 82 #[v, .int .i64 n, .int .i64 size] w (GrewPost w base v xs (numE n size)) := by
  have Hx := Lib.hid hx
  clear hx
  go_enter Try.func82, Try.ntmps82
  go_wp2
  go_loopw [0, 7] (fun v1 k wr => ∃ (i : Nat) (z : Int), i ≤ size ∧ k = .int .i64 z ∧ Hid (z = (size : Int) - 1 - (i : Int)) ∧ Grew w base v xs wr v1 ((numE n size).take i)) (fun _ k _ => (intOf k + 1).toNat)
  case atStart => exact ⟨0, _, by omega, rfl, by unfold Hid; simp, Grew.refl hown⟩
  case round =>
    obtain ⟨i, z, hi, rfl, hz, hg⟩ := hrel
    by_cases hlt : i < size
    · obtain ⟨m, hm⟩ : ∃ m : Nat, z = (m : Int) := ⟨z.toNat, by have := hz.out; omega⟩
      subst hm
      have hm8 : m ≤ 7 := by have := hz.out; omega
      have hl : (List.take i (numE n size)).length ≤ 8 := by rw [List.length_take, numE_len]; omega
      go_wp2_with (at_builtin; refine app_u8 _ rfl (.tmp 14) (.tmp 20) rfl (hg.1.alloc _) rfl (Reads.new (D := Any) _ _ 1 1 _ trivial rfl) rfl (by simp [Value.oneCell']) (by have := Hx.out; omega) (by have := hg.2.1.size; simp; omega) ?_; intro v2 w2 hown2 hg2 hat2)
      refine ⟨⟨i + 1, (m : Int) - 1, by omega, rfl, ?_, ?_⟩, by simp [intOf]⟩
      · have := hz.out
        unfold Hid
        omega
      · rw [numE_take n size i hlt]
        refine hg.step (by rfl) ?_ hown2 hg2 hat2
        have hm : size - 1 - i = m := by have := hz.out; omega
        have e : (256 : Nat) ^ m = 2 ^ (8 * m) := by rw [Nat.pow_mul]
        rw [hm, e]
        simp only [u8s, List.map_cons, List.map_nil]
        rw [ofNat_toNat (Nat.mod_lt _ (by omega))]
        push_cast
        rfl
    · have hz1 : z = -1 := by have := hz.out; omega
      subst hz1
      go_wp2
      go_ret
      have e : (numE n size).take i = numE n size := List.take_of_length_le (by rw [numE_len]; omega)
      rw [e] at hg
      obtain ⟨A2, c2, rfl⟩ := hg.form
      exact ⟨A2, c2, rfl, hg⟩

theorem or_wide (x y : Nat) (hx : x < 1099511627776) (hy : y < 256) : bits .or .i64 ((x : Int) * 256) (y : Int) = ((x * 256 + y : Nat) : Int) := by
  have e1 : (BitVec.ofInt 64 ((x : Int) * 256)).toNat = x * 256 := by
    rw [show ((x : Int) * 256) = ((x * 256 : Nat) : Int) by omega, BitVec.ofInt_natCast, BitVec.toNat_ofNat]; exact Nat.mod_eq_of_lt (by omega)
  have e2 : (BitVec.ofInt 64 (y : Int)).toNat = y := by rw [BitVec.ofInt_natCast, BitVec.toNat_ofNat]; exact Nat.mod_eq_of_lt (by omega)
  show IntKind.i64.wrap ((BitVec.ofInt 64 ((x : Int) * 256) ||| BitVec.ofInt 64 (y : Int)).toNat : Int) = _
  rw [BitVec.toNat_or, e1, e2, IntKind.wrap_i64]
  have e3 : x * 256 ||| y = x * 256 + y := by
    rw [show x * 256 = 2 ^ 8 * x by omega]
    exact (Nat.two_pow_add_eq_or_of_lt (i := 8) (by omega) x).symm
  rw [e3]
  omega
theorem readN_mono (bs : List UInt8) (k : Nat) (h : k < bs.length) : readN (bs.take k) ≤ readN (bs.take (k + 1)) ∧ readN (bs.take (k + 1)) = readN (bs.take k) * 256 + bs[k].toNat := by
  have e : bs.take (k + 1) = bs.take k ++ [bs[k]] := List.take_succ_eq_append_getElem h
  rw [e, readN_snoc]
  exact ⟨by omega, rfl⟩
theorem readN_le (bs : List UInt8) : ∀ (j k : Nat), k + j = bs.length → readN (bs.take k) ≤ readN bs
  | 0, k, h => by rw [List.take_of_length_le (by omega)]; omega
  | j + 1, k, h => Nat.le_trans (readN_mono bs k (by omega)).1 (readN_le bs j (k + 1) (by omega))

set_option maxRecDepth 100000 in
set_option maxHeartbeats 1000000 in
theorem sread_any (A : Option Addr) (n c : Nat) (bs : List UInt8) (D : Nat → Prop) (w : World) (hr : Reads w D 1 A n (u8s bs)) (hn : n ≤ 8) (hb : readN bs < 1099511627776) :
    Calls Try.prog 117 #[.slice A n c] w fun e w' => e = .returned (.int .i64 (readN bs)) ∧ w = w' := by
  have hnl : n = bs.length := by have := hr.len; rwa [u8s_length] at this
  have Hnl := Lib.hid hnl
  clear hnl
  go_enter Try.func117, Try.ntmps117
  go_wp2
  go_loop [3, 8] (fun v i => ∃ k : Nat, k ≤ n ∧ i = .int .i64 k ∧ v = .int .i64 (readN (bs.take k))) (fun _ i => n - (intOf i).toNat)
  case atStart => exact ⟨0, Nat.zero_le _, rfl, rfl⟩
  case round =>
    obtain ⟨k, hk, rfl, rfl⟩ := hrel
    by_cases hlt : k < n
    · obtain ⟨b, off, u0, rfl, hD, hu0, hc0⟩ := hr.at_ (k := k) hlt
      have hkl : k < bs.length := by have := Hnl.out; omega
      rw [u8s_at bs k hkl] at hu0
      injection hu0 with hu0
      subst hu0
      obtain ⟨m1, m2⟩ := readN_mono bs k hkl
      have m3 := readN_le bs (bs.length - (k + 1)) (k + 1) (by omega)
      have HM := Lib.hid m2
      have hy : bs[k].toNat < 256 := UInt8.toNat_lt _
      generalize hY : bs[k].toNat = y at hc0 hy HM
      generalize hX : readN (bs.take k) = x at m1 HM
      have hx : x < 1099511627776 := by omega
      clear m2 hY hX m1 m3
      go_wp2
      go_round
      case rel => exact ⟨k + 1, by omega, by go_num, by rw [or_wide x y hx hy, HM.out]⟩
      case measure => simp [intOf]; omega
    · have hkn : k = bs.length := by have := Hnl.out; omega
      have Hk := Lib.hid hkn
      clear hkn
      go_wp2
      go_ret
      have := Hk.out
      exact ⟨by rw [List.take_of_length_le (by omega)]; rfl, rfl⟩

set_option maxRecDepth 100000 in
set_option maxHeartbeats 1000000 in
theorem part_any (v : Value) (A : Option Addr) (n c : Nat) (bs : List UInt8) (xs : List Value) (base : Nat) (w : World) (hn : n = bs.length) (hn2 : n ≤ 1099511627776) (hown : w.ownsRow base 5 1 v xs.length xs) (hb : base ≤ w.heap.size) (hx : xs.length ≤ 1099511627776)
    (hr : Reads w (fun b => v.ownBlock ≠ some b) 1 A n (u8s bs)) :
    Calls Try.prog 83 #[v, .slice A n c] w (GrewPost w base v xs (partE bs)) := by
  have Hn := Lib.hid hn
  clear hn
  go_enter Try.func83, Try.ntmps83
  go_wp2_with (fail)
  refine (number_any v n 4 xs base w hn2 (by omega) hown hb hx).mono ?_
  rintro e w1 ⟨A1, c1, rfl, hg1⟩
  have hl4 : (numE n 4).length = 4 := numE_len _ _
  rw [hl4] at hg1 ⊢
  have ho1 := hg1.1
  rw [hl4] at ho1
  have HN := Lib.hid hl4
  clear hl4
  have hr1 : Reads w1 (fun b => v.ownBlock ≠ some b) 1 A n (u8s bs) := hr.keep (Same.of_grown hg1.2.1 fun b hb _ e => hb e.symm)
  go_wp2_with (at_builtin; refine app_u8 _ rfl (.tmp 8) (.tmp 9) rfl ho1 rfl hr1 rfl (u8s_one _) (by omega) (by have := hg1.2.1.size; omega) ?_; intro v2 w2 hown2 hg2 hat2)
  go_ret
  have hfin : Grew w base v xs w2 v2 (partE bs) := by
    unfold partE
    rw [← Hn.out]
    exact Grew.step0 (b := bs) (m := n) hg1 Hn.out rfl (by rw [HN.out]; exact hown2) hg2 hat2
  obtain ⟨A2, c2, rfl⟩ := hfin.form
  exact ⟨A2, c2, rfl, hfin⟩

/-- what cut tells -/
def CutPost (w : World) (D : Nat → Prop) (A : Option Addr) (n c : Nat) (bs : List UInt8) (e : Ending) (w' : World) : Prop :=
  (∃ x r A1 c1 A2 c2, cutF bs = some (x, r) ∧ e = .returned (.tuple #[.slice A1 x.length c1, .slice A2 r.length c2, .bool true]) ∧ (x.length ≤ c1 ∧ c1 ≤ maxLen) ∧ (r.length ≤ c2 ∧ c2 ≤ maxLen) ∧ Reads w' D 1 A1 x.length (u8s x) ∧ Reads w' D 1 A2 r.length (u8s r) ∧ Below w.heap.size w w') ∨
    (cutF bs = none ∧ e = .returned (.tuple #[.slice none 0 0, .slice A n c, .bool false]) ∧ Below w.heap.size w w')
set_option maxRecDepth 100000 in
set_option maxHeartbeats 1000000 in
theorem scut_any (A : Option Addr) (n c : Nat) (bs : List UInt8) (D : Nat → Prop) (w : World) (hr : Reads w D 1 A n (u8s bs)) (hnc : n ≤ c) (hcm : c ≤ maxLen) (hn : n ≤ 1099511627776) :
    Calls Try.prog 91 #[.slice A n c] w (CutPost w D A n c bs) := by
  have hnl : n = bs.length := by have := hr.len; rwa [u8s_length] at this
  have Hnl := Lib.hid hnl
  clear hnl
  by_cases h4 : n < 4
  · go_enter Try.func91, Try.ntmps91
    go_wp2
    go_ret3
    exact .inr ⟨by unfold cutF; rw [if_pos (by have := Hnl.out; omega)], rfl, Below.refl _ _⟩
  · obtain ⟨hsl, hr4⟩ := slice_h (P := Try.prog) (c := c) _ _ Try.underlying23 (by kernel_rfl) hr hnc 4 (by omega) 4 rfl
    simp only [Nat.mul_one, u8s_take] at hr4
    have hlt := readN_lt (bs.take 4)
    have hl4 : (bs.take 4).length = 4 := by rw [List.length_take]; have := Hnl.out; omega
    rw [hl4] at hlt
    simp only [Nat.reducePow] at hlt
    clear hl4
    have hC : Hid (cutF bs = if n - 4 < readN (bs.take 4) then none else some ((bs.drop 4).take (readN (bs.take 4)), bs.drop (4 + readN (bs.take 4)))) := by
      unfold Hid cutF
      have := Hnl.out
      subst this
      rw [if_neg h4]
    have SR := Lib.hid (fun W (hW : W.heap = w.heap) => sread_any A 4 c (bs.take 4) D W (hr4.keep (Same.of_heap hW)) (by omega) (by omega))
    generalize readN (bs.take 4) = m at hlt hC SR
    clear hr4
    go_enter Try.func91, Try.ntmps91
    by_cases hfit : m ≤ n - 4
    · obtain ⟨A1, hsl1, hr1⟩ := slice_lh (P := Try.prog) (c := c) _ _ Try.underlying23 (by kernel_rfl) hr hnc 4 m (by omega) 4 (4 + (m : Int)) (by omega) (by omega)
      obtain ⟨A2, hsl2, hr2⟩ := slice_l (P := Try.prog) (c := c) _ _ Try.underlying23 (by kernel_rfl) hr hnc (4 + m) (by omega) (4 + (m : Int)) (by omega)
      simp only [Nat.mul_one, u8s_take, u8s_drop] at hr1 hr2
      have hd : ((n : Int) - 4 < (m : Int)) = False := by simp; omega
      have hd2 : decide ((n : Int) - 4 < (m : Int)) = false := by simp; omega
      go_wp2_with (go_at_call 117; refine (SR.out _ rfl).mono ?_; rintro e w' ⟨rfl, rfl⟩)
      go_quiet (fail)
      go_wp2
      go_ret3
      have hl := Hnl.out
      have e1 : ((bs.drop 4).take m).length = m := by rw [List.length_take, List.length_drop]; omega
      have e2 : (bs.drop (4 + m)).length = n - (4 + m) := by rw [List.length_drop]; omega
      refine .inl ⟨(bs.drop 4).take m, bs.drop (4 + m), A1, c - 4, A2, c - (4 + m), by rw [hC.out, if_neg (by omega)], ?_, ⟨by omega, by omega⟩, ⟨by omega, by omega⟩, ?_, ?_, ⟨rfl, rfl, rfl, Nat.le_refl _, fun _ _ => rfl⟩⟩
      · rw [e1, e2]
        rfl
      · rw [e1]
        exact hr1
      · rw [e2]
        exact hr2
    · have hd : ((n : Int) - 4 < (m : Int)) = True := by simp; omega
      have hd2 : decide ((n : Int) - 4 < (m : Int)) = true := by simp; omega
      go_wp2_with (go_at_call 117; refine (SR.out _ rfl).mono ?_; rintro e w' ⟨rfl, rfl⟩)
      go_ret3
      exact .inr ⟨by rw [hC.out, if_pos (by omega)], rfl, Below.refl _ _⟩
end Go.Proofs.Ytgcpclbkjplipaa
set_option linter.unusedVariables false
namespace Go.Proofs.Ytgcpclbkjplipaa
open Go.RowKit Go.Mem Go.Chunk

theorem packF_take_succ (l : List (List UInt8)) (k : Nat) (h : k < l.length) : packF (l.take (k + 1)) = packF (l.take k) ++ ([hi8 l[k].length, lo8 l[k].length] ++ l[k]) := by
  rw [List.take_succ_eq_append_getElem h, packF_append]
  simp [packF]
theorem packF_take_le (l : List (List UInt8)) (k : Nat) : (packF (l.take k)).length ≤ (packF l).length := by
  have := packF_append (l.take k) (l.drop k)
  rw [List.take_append_drop] at this
  rw [this, List.length_append]
  omega

theorem pack_step (l : List (List UInt8)) (k n1 : Nat) (hkl : k < l.length) (hn : n1 = l[k].length) (hsm : n1 ≤ 65535) {w : World} {base : Nat} {v : Value} 
    (h : w.ownsRow base 5 1 v ((packF (l.take k)).length + 2 + n1) (u8s (packF (l.take k)) ++ [.int .u8 ((n1 : Int) / 256), .int .u8 ((n1 : Int) % 256)] ++ u8s l[k])) :
    w.ownsRow base 5 1 v (packF (l.take (k + 1))).length (u8s (packF (l.take (k + 1)))) := by
  rw [packF_take_succ l k hkl]
  subst hn
  have e : u8s (packF (l.take k) ++ ([hi8 l[k].length, lo8 l[k].length] ++ l[k])) = u8s (packF (l.take k)) ++ [.int .u8 ((l[k].length : Int) / 256), .int .u8 ((l[k].length : Int) % 256)] ++ u8s l[k] := by
    simp [u8s, hi8, lo8]
    omega
  rw [e]
  have e2 : (packF (l.take k) ++ ([hi8 l[k].length, lo8 l[k].length] ++ l[k])).length = (packF (l.take k)).length + 2 + l[k].length := by simp; omega
  rw [e2]
  exact h

set_option maxRecDepth 100000 in
set_option maxHeartbeats 1000000 in
theorem pack_any (v : Value) (l : List (List UInt8)) (w : World) (hv : ListAt 1 BytesCell w Any v l)
    (hs : ∀ p ∈ l, p.length ≤ 65535) (ht : (packF l).length ≤ 65536) (hn : l.length ≤ 65536) :
    Calls Try.prog 15 #[v] w fun e w' => ∃ A c, e = .returned (.tuple #[.slice A (packF l).length c, .int .i64 0]) ∧ w'.ownsRow w.heap.size 5 1 (.slice A (packF l).length c) (packF l).length (u8s (packF l)) ∧ Below w.heap.size w w' := by
  obtain ⟨A, c, vss, rfl, _, _, hr, hl⟩ := hv
  obtain ⟨n, hnl⟩ : ∃ n, n = l.length := ⟨_, rfl⟩
  rw [← hnl] at hr hn ⊢
  have Hnl := Lib.hid hnl
  have HT := Lib.hid ht
  clear hnl ht
  go_enter Try.func15, Try.ntmps15
  go_wp2
  go_loopw [4, 9] (fun v i wr => ∃ k : Nat, k ≤ n ∧ i = .int .i64 k ∧ wr.ownsRow w.heap.size 5 1 v (packF (l.take k)).length (u8s (packF (l.take k))) ∧ Below w.heap.size w wr) (fun _ i _ => n - (intOf i).toNat)
  case atStart => exact ⟨0, Nat.zero_le _, rfl, World.ownsRow_nil _ _ _ _, Below.refl _ _⟩
  case round =>
    obtain ⟨k, hk, rfl, hown, hb⟩ := hrel
    by_cases hlt : k < n
    · have hkl : k < l.length := by have := Hnl.out; omega
      obtain ⟨b, off, cs, rfl, _, ⟨u, rfl, A1, n1, c1, rfl, hn1, hc1, hr1⟩, hc⟩ := hr.elem BytesCell.stable hl Hnl.out hkl
      have hc0 : wr.cell? ⟨b, off + k, none⟩ = some (.slice A1 n1 c1) := (Same.any (D := Any) hb).cell trivial (by simpa using hc 0 _ rfl)
      have hlen : n1 = l[k].length := by have := hr1.len; rwa [u8s_length] at this
      have hle := hs l[k] (List.getElem_mem hkl)
      have hsm : n1 ≤ 65535 := by omega
      have Hlen := Lib.hid hlen
      clear hlen hle hc
      have hpt := Lib.hid (packF_take_succ l k hkl)
      have hpl : (packF (l.take k)).length + n1 + 2 ≤ 65536 := by
        have h1 := packF_take_le l (k + 1)
        have h2 := HT.out
        have h3 := Hlen.out
        rw [hpt.out] at h1
        simp at h1
        omega
      go_wp2_with (first
        | (at_builtin; refine app_u8 _ rfl (.tmp 16) (.tmp 24) rfl (hown.alloc _) rfl (Reads.new (D := Any) _ [.int .u8 ((n1 : Int) / 256), .int .u8 ((n1 : Int) % 256)] 1 2 _ trivial rfl) rfl (by simp [Value.oneCell']) (by omega) (by have := hb.size; simp; omega) ?_; intro v1 w1 hown1 hg1 hat1; have hb1 : Below w.heap.size w w1 := (hb.alloc hb.size _).grown hg1 (by have := hb.size; simp; omega) (fun k hk => (hown.lt k hk).1))
        | (at_builtin; refine app_u8 _ rfl (.tmp 26) (.tmp 27) rfl hown1 rfl (hr1.keep (Same.any hb1)) rfl (u8s_one _) (by omega) (by have := hb1.size; omega) ?_; intro v2 w2 hown2 hg2 hat2))
      refine ⟨⟨k + 1, by omega, by go_num, pack_step l k n1 hkl Hlen.out hsm hown2, hb1.grown hg2 hb1.size (fun k hk => (hown1.lt k hk).1)⟩, by simp [intOf]; omega⟩
    · have hkn : k = l.length := by have := Hnl.out; omega
      have Hk := Lib.hid hkn
      clear hkn
      go_wp2
      go_ret2
      have := Hk.out
      subst this
      rw [List.take_length] at hown
      obtain ⟨A1, c1, rfl, _⟩ := own_form hown
      exact ⟨A1, c1, rfl, hown, hb⟩
end Go.Proofs.Ytgcpclbkjplipaa
