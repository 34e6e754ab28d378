/- Plain laws of package store's bytes: numbers in some bytes, parts with their lengths, snapshots. · Contract of chunk.Scan: the byte strings that are whole, and where they end. · Contracts of package store's numbers and parts: number, read, part, cut. -/
import Derived.Test.YteojmmjanjilaaaPart5
import Derived.Test.YteojmmjanjilaaaMailGood
import Derived.Deep.QuietTactic
import Derived.BigQuiet
import Derived.Test.YteojmmjanjilaaaPart7
import Derived.Test.YteojmmjanjilaaaRd
set_option linter.unusedVariables false
namespace Go.Val

/-- a number in some bytes, the most significant one first -/
def numE (n size : Nat) : List UInt8 := (List.range size).map fun i => UInt8.ofNat (n / 256 ^ (size - 1 - i) % 256)
def readN (bs : List UInt8) : Nat := bs.foldl (fun a b => a * 256 + b.toNat) 0
theorem numE_len (n size : Nat) : (numE n size).length = size := by simp [numE]
theorem readN_snoc (bs : List UInt8) (b : UInt8) : readN (bs ++ [b]) = readN bs * 256 + b.toNat := by simp [readN]
theorem numE_take (n size i : Nat) (h : i < size) : (numE n size).take (i + 1) = (numE n size).take i ++ [UInt8.ofNat (n / 256 ^ (size - 1 - i) % 256)] := by
  rw [List.take_succ_eq_append_getElem (by rw [numE_len]; exact h)]
  simp [numE]
theorem readN_take (n size : Nat) : ∀ i, i ≤ size → readN ((numE n size).take i) = n / 256 ^ (size - i) % 256 ^ i
  | 0, _ => by simp [readN, Nat.mod_one]
  | i + 1, h => by
    rw [numE_take n size i (by omega), readN_snoc, readN_take n size i (by omega)]
    have e1 : (UInt8.ofNat (n / 256 ^ (size - 1 - i) % 256)).toNat = n / 256 ^ (size - 1 - i) % 256 := ofNat_toNat (Nat.mod_lt _ (by omega))
    rw [e1]
    have e2 : 256 ^ (size - i) = 256 ^ (size - (i + 1)) * 256 := by rw [show size - i = (size - (i + 1)) + 1 by omega, Nat.pow_succ]
    have e3 : size - 1 - i = size - (i + 1) := by omega
    rw [e2, e3, ← Nat.div_div_eq_div_mul]
    generalize n / 256 ^ (size - (i + 1)) = q
    rw [Nat.pow_succ, Nat.mul_comm (256 ^ i) 256, Nat.mod_mul]
    omega
theorem readN_num (n size : Nat) (h : n < 256 ^ size) : readN (numE n size) = n := by
  have := readN_take n size size (Nat.le_refl _)
  rw [List.take_of_length_le (by rw [numE_len]; omega)] at this
  rw [this]
  simp [Nat.mod_eq_of_lt h]
theorem readN_lt (bs : List UInt8) : readN bs < 256 ^ bs.length := by
  have h : ∀ (bs : List UInt8) (a : Nat), bs.foldl (fun a b => a * 256 + b.toNat) a < (a + 1) * 256 ^ bs.length := by
    intro bs
    induction bs with
    | nil => intro a; simp
    | cons b r ih =>
      intro a
      rw [List.foldl_cons, List.length_cons]
      have h1 := ih (a * 256 + b.toNat)
      have hb : b.toNat < 256 := UInt8.toNat_lt b
      have h2 : (a * 256 + b.toNat + 1) * 256 ^ r.length ≤ (a + 1) * 256 * 256 ^ r.length := Nat.mul_le_mul_right _ (by omega)
      rw [Nat.pow_succ, Nat.mul_comm (256 ^ r.length) 256, ← Nat.mul_assoc]
      omega
  have := h bs 0
  unfold readN
  simpa using this

/-- a part: its length, its bytes -/
def partE (x : List UInt8) : List UInt8 := numE x.length 4 ++ x
theorem partE_len (x : List UInt8) : (partE x).length = 4 + x.length := by simp [partE, numE_len]
def cutF (bs : List UInt8) : Option (List UInt8 × List UInt8) :=
  if bs.length < 4 then none else if bs.length - 4 < readN (bs.take 4) then none else some ((bs.drop 4).take (readN (bs.take 4)), bs.drop (4 + readN (bs.take 4)))
theorem cutF_part (x r : List UInt8) (m : Nat) (hx : x.length < 4294967296) : cutF ((partE x ++ r).take m) = if 4 + x.length ≤ m then some (x, r.take (m - (4 + x.length))) else none := by
  have hn : readN (numE x.length 4) = x.length := readN_num _ _ (by simpa using hx)
  have h4 : (numE x.length 4).length = 4 := numE_len _ _
  have hl : (partE x ++ r).length = 4 + x.length + r.length := by rw [List.length_append, partE_len]
  unfold cutF
  rw [List.length_take, hl]
  by_cases h1 : m < 4
  · rw [if_pos (by omega), if_neg (by omega)]
  · have ht : ((partE x ++ r).take m).take 4 = numE x.length 4 := by
      rw [List.take_take, Nat.min_eq_left (by omega)]
      unfold partE
      rw [List.append_assoc, List.take_append_of_le_length (by omega), List.take_of_length_le (by omega)]
    rw [if_neg (by omega), ht, hn]
    by_cases h2 : 4 + x.length ≤ m
    · rw [if_neg (by omega), if_pos h2]
      have e1 : ((partE x ++ r).take m).drop 4 = (x ++ r).take (m - 4) := by
        rw [List.drop_take]
        unfold partE
        rw [List.append_assoc, List.drop_append_of_le_length (by omega), List.drop_of_length_le (by omega), List.nil_append]
      rw [← List.drop_drop, e1, List.take_take, Nat.min_eq_left (by omega), List.take_append_of_le_length (by omega), List.take_of_length_le (Nat.le_refl _), List.drop_take, List.drop_append_of_le_length (by omega), List.drop_of_length_le (by omega), List.nil_append]
      congr 3
      omega
    · rw [if_pos (by omega), if_neg h2]

structure Wy where
  from_ : Int
  to_ : Int
  letters : List L
structure Snp where
  time : Int
  parcels : List Pc
  ways : List Wy
def wayE (d : Nat) (w : Wy) : List UInt8 := UInt8.ofNat w.from_.toNat :: UInt8.ofNat w.to_.toNat :: Chunk.packF (w.letters.map (encL d))
def partsE (d : Nat) (s : Snp) : List (List UInt8) := s.parcels.map (encP d) ++ s.ways.map (wayE d)
def snapE (d : Nat) (s : Snp) : List UInt8 := numE s.time.toNat 8 ++ (UInt8.ofNat s.parcels.length :: UInt8.ofNat s.ways.length :: (partsE d s).flatMap partE)
end Go.Val
set_option linter.unusedVariables false
namespace Go.Proofs.Yteojmmjanjilaaa
open Go.RowKit Go.Mem Go.Chunk

theorem info_row : (Try.prog.info? 62).map (fun i => (i.zero, i.size, i.bytes)) = some (some (.slice none 0 0), 1, 24) := by kernel_rfl
/-- append of slices of bytes onto a row of the call's own -/
theorem app_row (w : World) {ops : Array Oper} {rest : List Oper} {o : Oper} {a : Act} {Q : Exit → Act → World → Prop} (hgd : o.guard = none) (s x : Operand)
    (ho : o.op = .call { callee := .builtin .append, args := #[s, x], argTypes := #[94, 94] })
    {base : Nat} {v : Value} {n : Nat} {xs : List Value} (hown : w.ownsRow base 62 1 v n xs) (hs : a.eval s = v)
    {D : Nat → Prop} {A : Option Addr} {m : Nat} {news : List Value} (hr : Reads w D 1 A m news) {c : Nat} (hx : a.eval x = .slice A m c) (h1 : ∀ u ∈ news, u.oneCell' = true)
    (h63 : n + m ≤ 2932031007402) (hbase : base ≤ w.heap.size)
    (h : ∀ v' w', w'.ownsRow base 62 1 v' (n + m) (xs ++ news) → w.grownBy w' v.ownBlock → (v'.ownBlock = v.ownBlock ∨ v'.ownBlock = some w.heap.size) → wpList Try.prog ops Q rest (a.put o.dst v') w') : wpList Try.prog ops Q (o :: rest) a w := by
  obtain ⟨i0, hi0, hz0, hz1, hz2⟩ := info_parts info_row
  exact wpList_append_any w hgd s x _ ho base _ i0 _ 1 24 Try.underlying94 hi0 hz0 hz1 hz2 rfl (by omega) v n xs hs hown D A m c news hx hr h1 (by simp only [maxLen]; omega) (by omega) hbase h

theorem or_bytes (x y : Nat) (hx : x < 256) (hy : y < 256) : bits .or .i64 ((x : Int) * 256) (y : Int) = ((x * 256 + y : Nat) : Int) := by
  have e1 : (BitVec.ofInt 64 ((x : Int) * 256)).toNat = x * 256 := by
    rw [show ((x : Int) * 256) = ((x * 256 : Nat) : Int) by omega, BitVec.ofInt_natCast, BitVec.toNat_ofNat]; exact Nat.mod_eq_of_lt (by omega)
  have e2 : (BitVec.ofInt 64 (y : Int)).toNat = y := by rw [BitVec.ofInt_natCast, BitVec.toNat_ofNat]; exact Nat.mod_eq_of_lt (by omega)
  show IntKind.i64.wrap ((BitVec.ofInt 64 ((x : Int) * 256) ||| BitVec.ofInt 64 (y : Int)).toNat : Int) = _
  rw [BitVec.toNat_or, e1, e2, IntKind.wrap_i64]
  have e3 : x * 256 ||| y = x * 256 + y := by
    rw [show x * 256 = 2 ^ 8 * x by omega]
    exact (Nat.two_pow_add_eq_or_of_lt (i := 8) (by omega) x).symm
  rw [e3]
  omega
theorem drop2 (bs : List UInt8) (k : Nat) (h1 : k < bs.length) (h2 : k + 1 < bs.length) : bs.drop k = bs[k] :: bs[k + 1] :: bs.drop (k + 2) := by
  rw [List.drop_eq_getElem_cons h1, List.drop_eq_getElem_cons h2]

set_option maxRecDepth 100000 in
set_option maxHeartbeats 1000000 in
theorem scan_any (A : Option Addr) (n c : Nat) (bs : List UInt8) (D : Nat → Prop) (w : World) (hr : Reads w D 1 A n (u8s bs)) (hnc : n ≤ c) (hc : c ≤ maxLen) (hn : n ≤ 65536) :
    Calls Try.prog 71 #[.slice A n c] w fun e w' => ∃ A c, e = .returned (.tuple #[.slice A (scanF n bs).length c, .int .i64 (sizeF (scanF n bs) : Nat)]) ∧ OwnList 62 1 BytesCell w' w.heap.size (.slice A (scanF n bs).length c) (scanF n bs) ∧ Below w.heap.size w w' := by
  unfold maxLen at hc
  have hnl : n = bs.length := by have := hr.len; rwa [u8s_length] at this
  have Hnl := Lib.hid hnl
  clear hnl
  go_enter Try.func71, Try.ntmps71
  go_wp2
  go_loopw [4, 5] (fun v i wr => ∃ (k f : Nat) (out : List (List UInt8)), k ≤ n ∧ i = .int .i64 k ∧ n - k ≤ f ∧ scanF n bs = out ++ scanF f (bs.drop k) ∧ sizeF out = k ∧ OwnList 62 1 BytesCell wr w.heap.size v out ∧ Below w.heap.size w wr) (fun _ i _ => n - (intOf i).toNat)
  case atStart => exact ⟨0, n, [], Nat.zero_le _, rfl, by omega, by simp, rfl, OwnList.nil _ _ _ _, Below.refl _ _⟩
  case round =>
    obtain ⟨k, f, out, hk, rfl, hf, hsc, hsz, hown, hb⟩ := hrel
    have Hsc := Lib.hid hsc
    have Hsz := Lib.hid hsz
    clear hsc hsz
    by_cases hlt : k + 2 ≤ n
    · obtain ⟨b, off, u0, rfl, hD, hu0, hc0⟩ := hr.at_ (k := k) (by omega)
      obtain ⟨b', off', u1, e, _, hu1, hc1⟩ := hr.at_ (k := k + 1) (by omega)
      injection e with e
      injection e with e1 e2
      subst e1 e2
      have hkl : k < bs.length := by have := Hnl.out; omega
      have hkl1 : k + 1 < bs.length := by have := Hnl.out; omega
      rw [u8s_at bs k hkl] at hu0
      rw [u8s_at bs (k + 1) hkl1] at hu1
      injection hu0 with hu0
      injection hu1 with hu1
      subst hu0 hu1
      have g0 : wr.cell? ⟨b, off + k, none⟩ = some (.int .u8 (bs[k].toNat : Int)) := (Same.any (D := Any) hb).cell trivial hc0
      have g1 : wr.cell? ⟨b, off + (k + 1), none⟩ = some (.int .u8 (bs[k + 1].toNat : Int)) := (Same.any (D := Any) hb).cell trivial hc1
      clear hc0 hc1
      generalize hx : bs[k].toNat = x at g0
      generalize hy : bs[k + 1].toNat = y at g1
      have hx256 : x < 256 := by rw [← hx]; exact UInt8.toNat_lt _
      have hy256 : y < 256 := by rw [← hy]; exact UInt8.toNat_lt _
      have Hx := Lib.hid hx
      have Hy := Lib.hid hy
      clear hx hy
      go_wp2
      go_quiet (fail)
      rw [or_bytes x y hx256 hy256]
      generalize hm : x * 256 + y = m
      have hm65 : m < 65536 := by omega
      have Hm := Lib.hid hm
      clear hm
      have hbq : Below w.heap.size w (wr.drewN nq) := ⟨hb.os, hb.tape, hb.output, hb.size, hb.block⟩
      have hownq : OwnList 62 1 BytesCell (wr.drewN nq) w.heap.size u4 out := hown
      generalize hwq : wr.drewN nq = wq at hbq hownq ⊢
      clear hwq hown hb g0 g1 wr
      by_cases hfit : k + 2 + m ≤ n
      · have hrq := hr.keep (Same.any hbq)
        obtain ⟨A2, hsl, hrd⟩ := slice_lh (P := Try.prog) (c := c) _ _ Try.underlying62 (by kernel_rfl) hrq hnc (k + 2) m hfit ((k : Int) + 2) ((k : Int) + 2 + (m : Int)) (by omega) (by omega)
        simp only [Nat.mul_one, u8s_drop, u8s_take] at hrd
        clear hrq
        go_wp2_with (fail)
        refine (clone_any _ m _ (u8s ((bs.drop (k + 2)).take m)) D _ hrd (u8s_one _) (by omega)).mono ?_
        rintro e w1 ⟨A1, c1, rfl, hv1, hb1⟩
        have hb1' : Below w.heap.size w w1 := hbq.trans (hb1.mono hbq.size)
        have hown1 : OwnList 62 1 BytesCell w1 w.heap.size u4 out := hownq.keep BytesCell.stable (Same.of_below hb1 fun _ _ h => h)
        have hlt1 := hownq.lt
        have hy : BytesCell w1 (fun b => w.heap.size ≤ b ∧ u4.ownBlock ≠ some b) [.slice A1 m c1] ((bs.drop (k + 2)).take m) :=
          ⟨_, rfl, (Bytes.of_own_new hv1).imp fun b hb _ => ⟨by have := hbq.size; omega, fun e => by have := (hlt1 b e).2; omega⟩⟩
        clear hlt1
        obtain ⟨vss, ho, ha⟩ := hown1
        have hol : out.length ≤ 65536 := by
          have h1 := Hsz.out
          have h2 : out.length ≤ sizeF out := sizeF_len out
          omega
        go_wp2_with (at_builtin; refine app_row _ rfl (.tmp 32) (.tmp 42) rfl (ho.alloc _) rfl (Reads.new (D := Any) _ [.slice A1 m c1] 1 1 _ trivial rfl) rfl (BytesCell.stable.one hy) (by omega) (by have := hb1'.size; simp; omega) ?_; intro v2 w2 hown2 hg2 hat2)
        refine ⟨⟨k + 2 + m, f - 1, out ++ [(bs.drop (k + 2)).take m], by omega, by go_num, by omega, ?_, ?_, OwnList.push BytesCell.stable ha hy hg2 hat2 hown2, (hb1'.alloc hb1'.size _).grown hg2 (by have := hb1'.size; simp; omega) (fun k hk => (ho.lt k hk).1)⟩, by simp [intOf]; omega⟩
        · rw [Hsc.out, drop2 bs k hkl hkl1]
          obtain ⟨f', rfl⟩ : ∃ f', f = f' + 1 := ⟨f - 1, by omega⟩
          rw [scanF_step f' _ _ _ m (by rw [Hx.out, Hy.out]; exact Hm.out) (by simp; have := Hnl.out; omega)]
          simp [List.drop_drop]
        · rw [sizeF_append, Hsz.out]
          have := Hnl.out
          simp [sizeF]
          omega
      · have hfin : Hid (scanF n bs = out) := by
          unfold Hid
          rw [Hsc.out, drop2 bs k hkl hkl1, scanF_stop f _ _ _ m (by rw [Hx.out, Hy.out]; exact Hm.out) (by simp; have := Hnl.out; omega)]
          simp
        go_wp2
        go_ret2
        rw [hfin.out, Hsz.out]
        obtain ⟨A1, c1, rfl, _⟩ := hownq.form
        exact ⟨A1, c1, rfl, hownq, hbq⟩
    · have hfin : Hid (scanF n bs = out) := by
        unfold Hid
        rw [Hsc.out, scanF_short f _ (by simp; have := Hnl.out; omega)]
        simp
      go_wp2
      go_ret2
      rw [hfin.out, Hsz.out]
      obtain ⟨A1, c1, rfl, _⟩ := hown.form
      exact ⟨A1, c1, rfl, hown, hb⟩
end Go.Proofs.Yteojmmjanjilaaa
set_option linter.unusedVariables false
namespace Go.Proofs.Yteojmmjanjilaaa
open Go.RowKit Go.Mem Go.Val

set_option maxRecDepth 100000 in
set_option maxHeartbeats 1000000 in
theorem number_any (v : Value) (n size : Nat) (xs : List Value) (base : Nat) (w : World) (hn : n ≤ 1099511627776) (hs : size ≤ 8) (hown : w.ownsRow base 5 1 v xs.length xs) (hb : base ≤ w.heap.size) (hx : xs.length ≤ 1099511627776) :
    Calls Try.prog 30 #[v, .int .i64 n, .int .i64 size] w (GrewPost w base v xs (numE n size)) := by
  have Hx := Lib.hid hx
  clear hx
  go_enter Try.func30, Try.ntmps30
  go_wp2
  go_loopw [0, 7] (fun v1 k wr => ∃ (i : Nat) (z : Int), i ≤ size ∧ k = .int .i64 z ∧ Hid (z = (size : Int) - 1 - (i : Int)) ∧ Grew w base v xs wr v1 ((numE n size).take i)) (fun _ k _ => (intOf k + 1).toNat)
  case atStart => exact ⟨0, _, by omega, rfl, by unfold Hid; simp, Grew.refl hown⟩
  case round =>
    obtain ⟨i, z, hi, rfl, hz, hg⟩ := hrel
    by_cases hlt : i < size
    · obtain ⟨m, hm⟩ : ∃ m : Nat, z = (m : Int) := ⟨z.toNat, by have := hz.out; omega⟩
      subst hm
      have hm8 : m ≤ 7 := by have := hz.out; omega
      have hl : (List.take i (numE n size)).length ≤ 8 := by rw [List.length_take, numE_len]; omega
      go_wp2_with (at_builtin; refine app_u8 _ rfl (.tmp 14) (.tmp 20) rfl (hg.1.alloc _) rfl (Reads.new (D := Any) _ _ 1 1 _ trivial rfl) rfl (by simp [Value.oneCell']) (by have := Hx.out; omega) (by have := hg.2.1.size; simp; omega) ?_; intro v2 w2 hown2 hg2 hat2)
      refine ⟨⟨i + 1, (m : Int) - 1, by omega, rfl, ?_, ?_⟩, by simp [intOf]⟩
      · have := hz.out
        unfold Hid
        omega
      · rw [numE_take n size i hlt]
        refine hg.step (by rfl) ?_ hown2 hg2 hat2
        have hm : size - 1 - i = m := by have := hz.out; omega
        have e : (256 : Nat) ^ m = 2 ^ (8 * m) := by rw [Nat.pow_mul]
        rw [hm, e]
        simp only [u8s, List.map_cons, List.map_nil]
        rw [ofNat_toNat (Nat.mod_lt _ (by omega))]
        push_cast
        rfl
    · have hz1 : z = -1 := by have := hz.out; omega
      subst hz1
      go_wp2
      go_ret
      have e : (numE n size).take i = numE n size := List.take_of_length_le (by rw [numE_len]; omega)
      rw [e] at hg
      obtain ⟨A2, c2, rfl⟩ := hg.form
      exact ⟨A2, c2, rfl, hg⟩

theorem or_wide (x y : Nat) (hx : x < 1099511627776) (hy : y < 256) : bits .or .i64 ((x : Int) * 256) (y : Int) = ((x * 256 + y : Nat) : Int) := by
  have e1 : (BitVec.ofInt 64 ((x : Int) * 256)).toNat = x * 256 := by
    rw [show ((x : Int) * 256) = ((x * 256 : Nat) : Int) by omega, BitVec.ofInt_natCast, BitVec.toNat_ofNat]; exact Nat.mod_eq_of_lt (by omega)
  have e2 : (BitVec.ofInt 64 (y : Int)).toNat = y := by rw [BitVec.ofInt_natCast, BitVec.toNat_ofNat]; exact Nat.mod_eq_of_lt (by omega)
  show IntKind.i64.wrap ((BitVec.ofInt 64 ((x : Int) * 256) ||| BitVec.ofInt 64 (y : Int)).toNat : Int) = _
  rw [BitVec.toNat_or, e1, e2, IntKind.wrap_i64]
  have e3 : x * 256 ||| y = x * 256 + y := by
    rw [show x * 256 = 2 ^ 8 * x by omega]
    exact (Nat.two_pow_add_eq_or_of_lt (i := 8) (by omega) x).symm
  rw [e3]
  omega
theorem readN_mono (bs : List UInt8) (k : Nat) (h : k < bs.length) : readN (bs.take k) ≤ readN (bs.take (k + 1)) ∧ readN (bs.take (k + 1)) = readN (bs.take k) * 256 + bs[k].toNat := by
  have e : bs.take (k + 1) = bs.take k ++ [bs[k]] := List.take_succ_eq_append_getElem h
  rw [e, readN_snoc]
  exact ⟨by omega, rfl⟩
theorem readN_le (bs : List UInt8) : ∀ (j k : Nat), k + j = bs.length → readN (bs.take k) ≤ readN bs
  | 0, k, h => by rw [List.take_of_length_le (by omega)]; omega
  | j + 1, k, h => Nat.le_trans (readN_mono bs k (by omega)).1 (readN_le bs j (k + 1) (by omega))

set_option maxRecDepth 100000 in
set_option maxHeartbeats 1000000 in
theorem sread_any (A : Option Addr) (n c : Nat) (bs : List UInt8) (D : Nat → Prop) (w : World) (hr : Reads w D 1 A n (u8s bs)) (hn : n ≤ 8) (hb : readN bs < 1099511627776) :
    Calls Try.prog 55 #[.slice A n c] w fun e w' => e = .returned (.int .i64 (readN bs)) ∧ w = w' := by
  have hnl : n = bs.length := by have := hr.len; rwa [u8s_length] at this
  have Hnl := Lib.hid hnl
  clear hnl
  go_enter Try.func55, Try.ntmps55
  go_wp2
  go_loop [3, 8] (fun v i => ∃ k : Nat, k ≤ n ∧ i = .int .i64 k ∧ v = .int .i64 (readN (bs.take k))) (fun _ i => n - (intOf i).toNat)
  case atStart => exact ⟨0, Nat.zero_le _, rfl, rfl⟩
  case round =>
    obtain ⟨k, hk, rfl, rfl⟩ := hrel
    by_cases hlt : k < n
    · obtain ⟨b, off, u0, rfl, hD, hu0, hc0⟩ := hr.at_ (k := k) hlt
      have hkl : k < bs.length := by have := Hnl.out; omega
      rw [u8s_at bs k hkl] at hu0
      injection hu0 with hu0
      subst hu0
      obtain ⟨m1, m2⟩ := readN_mono bs k hkl
      have m3 := readN_le bs (bs.length - (k + 1)) (k + 1) (by omega)
      have HM := Lib.hid m2
      have hy : bs[k].toNat < 256 := UInt8.toNat_lt _
      generalize hY : bs[k].toNat = y at hc0 hy HM
      generalize hX : readN (bs.take k) = x at m1 HM
      have hx : x < 1099511627776 := by omega
      clear m2 hY hX m1 m3
      go_wp2
      go_round
      case rel => exact ⟨k + 1, by omega, by go_num, by rw [or_wide x y hx hy, HM.out]⟩
      case measure => simp [intOf]; omega
    · have hkn : k = bs.length := by have := Hnl.out; omega
      have Hk := Lib.hid hkn
      clear hkn
      go_wp2
      go_ret
      have := Hk.out
      exact ⟨by rw [List.take_of_length_le (by omega)]; rfl, rfl⟩

set_option maxRecDepth 100000 in
set_option maxHeartbeats 1000000 in
theorem part_any (v : Value) (A : Option Addr) (n c : Nat) (bs : List UInt8) (xs : List Value) (base : Nat) (w : World) (hn : n = bs.length) (hn2 : n ≤ 1099511627776) (hown : w.ownsRow base 5 1 v xs.length xs) (hb : base ≤ w.heap.size) (hx : xs.length ≤ 1099511627776)
    (hr : Reads w (fun b => v.ownBlock ≠ some b) 1 A n (u8s bs)) :
    Calls Try.prog 32 #[v, .slice A n c] w (GrewPost w base v xs (partE bs)) := by
  have Hn := Lib.hid hn
  clear hn
  go_enter Try.func32, Try.ntmps32
  go_wp2_with (fail)
  refine (number_any v n 4 xs base w hn2 (by omega) hown hb hx).mono ?_
  rintro e w1 ⟨A1, c1, rfl, hg1⟩
  have hl4 : (numE n 4).length = 4 := numE_len _ _
  rw [hl4] at hg1 ⊢
  have ho1 := hg1.1
  rw [hl4] at ho1
  have HN := Lib.hid hl4
  clear hl4
  have hr1 : Reads w1 (fun b => v.ownBlock ≠ some b) 1 A n (u8s bs) := hr.keep (Same.of_grown hg1.2.1 fun b hb _ e => hb e.symm)
  go_wp2_with (at_builtin; refine app_u8 _ rfl (.tmp 8) (.tmp 9) rfl ho1 rfl hr1 rfl (u8s_one _) (by omega) (by have := hg1.2.1.size; omega) ?_; intro v2 w2 hown2 hg2 hat2)
  go_ret
  have hfin : Grew w base v xs w2 v2 (partE bs) := by
    unfold partE
    rw [← Hn.out]
    exact Grew.step0 (b := bs) (m := n) hg1 Hn.out rfl (by rw [HN.out]; exact hown2) hg2 hat2
  obtain ⟨A2, c2, rfl⟩ := hfin.form
  exact ⟨A2, c2, rfl, hfin⟩

/-- what cut tells -/
def CutPost (w : World) (D : Nat → Prop) (A : Option Addr) (n c : Nat) (bs : List UInt8) (e : Ending) (w' : World) : Prop :=
  (∃ x r A1 c1 A2 c2, cutF bs = some (x, r) ∧ e = .returned (.tuple #[.slice A1 x.length c1, .slice A2 r.length c2, .bool true]) ∧ (x.length ≤ c1 ∧ c1 ≤ maxLen) ∧ (r.length ≤ c2 ∧ c2 ≤ maxLen) ∧ Reads w' D 1 A1 x.length (u8s x) ∧ Reads w' D 1 A2 r.length (u8s r) ∧ Below w.heap.size w w') ∨
    (cutF bs = none ∧ e = .returned (.tuple #[.slice none 0 0, .slice A n c, .bool false]) ∧ Below w.heap.size w w')
set_option maxRecDepth 100000 in
set_option maxHeartbeats 1000000 in
theorem scut_any (A : Option Addr) (n c : Nat) (bs : List UInt8) (D : Nat → Prop) (w : World) (hr : Reads w D 1 A n (u8s bs)) (hnc : n ≤ c) (hcm : c ≤ maxLen) (hn : n ≤ 1099511627776) :
    Calls Try.prog 56 #[.slice A n c] w (CutPost w D A n c bs) := by
  have hnl : n = bs.length := by have := hr.len; rwa [u8s_length] at this
  have Hnl := Lib.hid hnl
  clear hnl
  by_cases h4 : n < 4
  · go_enter Try.func56, Try.ntmps56
    go_wp2
    go_ret3
    exact .inr ⟨by unfold cutF; rw [if_pos (by have := Hnl.out; omega)], rfl, Below.refl _ _⟩
  · obtain ⟨hsl, hr4⟩ := slice_h (P := Try.prog) (c := c) _ _ Try.underlying62 (by kernel_rfl) hr hnc 4 (by omega) 4 rfl
    simp only [Nat.mul_one, u8s_take] at hr4
    have hlt := readN_lt (bs.take 4)
    have hl4 : (bs.take 4).length = 4 := by rw [List.length_take]; have := Hnl.out; omega
    rw [hl4] at hlt
    simp only [Nat.reducePow] at hlt
    clear hl4
    have hC : Hid (cutF bs = if n - 4 < readN (bs.take 4) then none else some ((bs.drop 4).take (readN (bs.take 4)), bs.drop (4 + readN (bs.take 4)))) := by
      unfold Hid cutF
      have := Hnl.out
      subst this
      rw [if_neg h4]
    have SR := Lib.hid (fun W (hW : W.heap = w.heap) => sread_any A 4 c (bs.take 4) D W (hr4.keep (Same.of_heap hW)) (by omega) (by omega))
    generalize readN (bs.take 4) = m at hlt hC SR
    clear hr4
    go_enter Try.func56, Try.ntmps56
    by_cases hfit : m ≤ n - 4
    · obtain ⟨A1, hsl1, hr1⟩ := slice_lh (P := Try.prog) (c := c) _ _ Try.underlying62 (by kernel_rfl) hr hnc 4 m (by omega) 4 (4 + (m : Int)) (by omega) (by omega)
      obtain ⟨A2, hsl2, hr2⟩ := slice_l (P := Try.prog) (c := c) _ _ Try.underlying62 (by kernel_rfl) hr hnc (4 + m) (by omega) (4 + (m : Int)) (by omega)
      simp only [Nat.mul_one, u8s_take, u8s_drop] at hr1 hr2
      have hd : ((n : Int) - 4 < (m : Int)) = False := by simp; omega
      have hd2 : decide ((n : Int) - 4 < (m : Int)) = false := by simp; omega
      go_wp2_with (go_at_call 55; refine (SR.out _ rfl).mono ?_; rintro e w' ⟨rfl, rfl⟩)
      go_quiet (fail)
      go_wp2
      go_ret3
      have hl := Hnl.out
      have e1 : ((bs.drop 4).take m).length = m := by rw [List.length_take, List.length_drop]; omega
      have e2 : (bs.drop (4 + m)).length = n - (4 + m) := by rw [List.length_drop]; omega
      refine .inl ⟨(bs.drop 4).take m, bs.drop (4 + m), A1, c - 4, A2, c - (4 + m), by rw [hC.out, if_neg (by omega)], ?_, ⟨by omega, by omega⟩, ⟨by omega, by omega⟩, ?_, ?_, ⟨rfl, rfl, rfl, Nat.le_refl _, fun _ _ => rfl⟩⟩
      · rw [e1, e2]
        rfl
      · rw [e1]
        exact hr1
      · rw [e2]
        exact hr2
    · have hd : ((n : Int) - 4 < (m : Int)) = True := by simp; omega
      have hd2 : decide ((n : Int) - 4 < (m : Int)) = true := by simp; omega
      go_wp2_with (go_at_call 55; refine (SR.out _ rfl).mono ?_; rintro e w' ⟨rfl, rfl⟩)
      go_ret3
      exact .inr ⟨by rw [hC.out, if_pos (by omega)], rfl, Below.refl _ _⟩
end Go.Proofs.Yteojmmjanjilaaa
