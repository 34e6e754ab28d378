/- Contract of chunk.Scan: the byte strings that are whole, and where they end. -/
import Derived.Test.YtgcpclbkjplipaaBase
import Derived.Test.YtgcpclbkjplipaaChunkLaw
import Derived.Deep.QuietTactic
import Derived.BigQuiet
set_option linter.unusedVariables false
namespace Go.Proofs.Ytgcpclbkjplipaa
open Go.RowKit Go.Mem Go.Chunk

theorem info_row : (Try.prog.info? 23).map (fun i => (i.zero, i.size, i.bytes)) = some (some (.slice none 0 0), 1, 24) := by kernel_rfl
/-- append of slices of bytes onto a row of the call's own -/
theorem app_row (w : World) {ops : Array Oper} {rest : List Oper} {o : Oper} {a : Act} {Q : Exit → Act → World → Prop} (hgd : o.guard = none) (s x : Operand)
    (ho : o.op = .call { callee := .builtin .append, args := #[s, x], argTypes := #[22, 22] })
    {base : Nat} {v : Value} {n : Nat} {xs : List Value} (hown : w.ownsRow base 23 1 v n xs) (hs : a.eval s = v)
    {D : Nat → Prop} {A : Option Addr} {m : Nat} {news : List Value} (hr : Reads w D 1 A m news) {c : Nat} (hx : a.eval x = .slice A m c) (h1 : ∀ u ∈ news, u.oneCell' = true)
    (h63 : n + m ≤ 2932031007402) (hbase : base ≤ w.heap.size)
    (h : ∀ v' w', w'.ownsRow base 23 1 v' (n + m) (xs ++ news) → w.grownBy w' v.ownBlock → (v'.ownBlock = v.ownBlock ∨ v'.ownBlock = some w.heap.size) → wpList Try.prog ops Q rest (a.put o.dst v') w') : wpList Try.prog ops Q (o :: rest) a w := by
  obtain ⟨i0, hi0, hz0, hz1, hz2⟩ := info_parts info_row
  exact wpList_append_any w hgd s x _ ho base _ i0 _ 1 24 Try.underlying22 hi0 hz0 hz1 hz2 rfl (by omega) v n xs hs hown D A m c news hx hr h1 (by simp only [maxLen]; omega) (by omega) hbase h

theorem or_bytes (x y : Nat) (hx : x < 256) (hy : y < 256) : bits .or .i64 ((x : Int) * 256) (y : Int) = ((x * 256 + y : Nat) : Int) := by
  have e1 : (BitVec.ofInt 64 ((x : Int) * 256)).toNat = x * 256 := by
    rw [show ((x : Int) * 256) = ((x * 256 : Nat) : Int) by omega, BitVec.ofInt_natCast, BitVec.toNat_ofNat]; exact Nat.mod_eq_of_lt (by omega)
  have e2 : (BitVec.ofInt 64 (y : Int)).toNat = y := by rw [BitVec.ofInt_natCast, BitVec.toNat_ofNat]; exact Nat.mod_eq_of_lt (by omega)
  show IntKind.i64.wrap ((BitVec.ofInt 64 ((x : Int) * 256) ||| BitVec.ofInt 64 (y : Int)).toNat : Int) = _
  rw [BitVec.toNat_or, e1, e2, IntKind.wrap_i64]
  have e3 : x * 256 ||| y = x * 256 + y := by
    rw [show x * 256 = 2 ^ 8 * x by omega]
    exact (Nat.two_pow_add_eq_or_of_lt (i := 8) (by omega) x).symm
  rw [e3]
  omega
theorem drop2 (bs : List UInt8) (k : Nat) (h1 : k < bs.length) (h2 : k + 1 < bs.length) : bs.drop k = bs[k] :: bs[k + 1] :: bs.drop (k + 2) := by
  rw [List.drop_eq_getElem_cons h1, List.drop_eq_getElem_cons h2]

set_option maxRecDepth 100000 in
set_option maxHeartbeats 1000000 in
theorem scan_any (A : Option Addr) (n c : Nat) (bs : List UInt8) (D : Nat → Prop) (w : World) (hr : Reads w D 1 A n (u8s bs)) (hnc : n ≤ c) (hc : c ≤ maxLen) (hn : n ≤ 65536) :
    Calls Try.prog 16 #[.slice A n c] w fun e w' => ∃ A c, e = .returned (.tuple #[.slice A (scanF n bs).length c, .int .i64 (sizeF (scanF n bs) : Nat)]) ∧ OwnList 23 1 BytesCell w' w.heap.size (.slice A (scanF n bs).length c) (scanF n bs) ∧ Below w.heap.size w w' := by
  unfold maxLen at hc
  have hnl : n = bs.length := by have := hr.len; rwa [u8s_length] at this
  have Hnl := Lib.hid hnl
  clear hnl
  go_enter Try.func16, Try.ntmps16
  go_wp2
  go_loopw [4, 5] (fun v i wr => ∃ (k f : Nat) (out : List (List UInt8)), k ≤ n ∧ i = .int .i64 k ∧ n - k ≤ f ∧ scanF n bs = out ++ scanF f (bs.drop k) ∧ sizeF out = k ∧ OwnList 23 1 BytesCell wr w.heap.size v out ∧ Below w.heap.size w wr) (fun _ i _ => n - (intOf i).toNat)
  case atStart => exact ⟨0, n, [], Nat.zero_le _, rfl, by omega, by simp, rfl, OwnList.nil _ _ _ _, Below.refl _ _⟩
  case round =>
    obtain ⟨k, f, out, hk, rfl, hf, hsc, hsz, hown, hb⟩ := hrel
    have Hsc := Lib.hid hsc
    have Hsz := Lib.hid hsz
    clear hsc hsz
    by_cases hlt : k + 2 ≤ n
    · obtain ⟨b, off, u0, rfl, hD, hu0, hc0⟩ := hr.at_ (k := k) (by omega)
      obtain ⟨b', off', u1, e, _, hu1, hc1⟩ := hr.at_ (k := k + 1) (by omega)
      injection e with e
      injection e with e1 e2
      subst e1 e2
      have hkl : k < bs.length := by have := Hnl.out; omega
      have hkl1 : k + 1 < bs.length := by have := Hnl.out; omega
      rw [u8s_at bs k hkl] at hu0
      rw [u8s_at bs (k + 1) hkl1] at hu1
      injection hu0 with hu0
      injection hu1 with hu1
      subst hu0 hu1
      have g0 : wr.cell? ⟨b, off + k, none⟩ = some (.int .u8 (bs[k].toNat : Int)) := (Same.any (D := Any) hb).cell trivial hc0
      have g1 : wr.cell? ⟨b, off + (k + 1), none⟩ = some (.int .u8 (bs[k + 1].toNat : Int)) := (Same.any (D := Any) hb).cell trivial hc1
      clear hc0 hc1
      generalize hx : bs[k].toNat = x at g0
      generalize hy : bs[k + 1].toNat = y at g1
      have hx256 : x < 256 := by rw [← hx]; exact UInt8.toNat_lt _
      have hy256 : y < 256 := by rw [← hy]; exact UInt8.toNat_lt _
      have Hx := Lib.hid hx
      have Hy := Lib.hid hy
      clear hx hy
      go_wp2
      go_quiet (fail)
      rw [or_bytes x y hx256 hy256]
      generalize hm : x * 256 + y = m
      have hm65 : m < 65536 := by omega
      have Hm := Lib.hid hm
      clear hm
      have hbq : Below w.heap.size w (wr.drewN nq) := ⟨hb.os, hb.tape, hb.output, hb.size, hb.block⟩
      have hownq : OwnList 23 1 BytesCell (wr.drewN nq) w.heap.size u4 out := hown
      generalize hwq : wr.drewN nq = wq at hbq hownq ⊢
      clear hwq hown hb g0 g1 wr
      by_cases hfit : k + 2 + m ≤ n
      · have hrq := hr.keep (Same.any hbq)
        obtain ⟨A2, hsl, hrd⟩ := slice_lh (P := Try.prog) (c := c) _ _ Try.underlying23 (by kernel_rfl) hrq hnc (k + 2) m hfit ((k : Int) + 2) ((k : Int) + 2 + (m : Int)) (by omega) (by omega)
        simp only [Nat.mul_one, u8s_drop, u8s_take] at hrd
        clear hrq
        go_wp2_with (fail)
        refine (clone_any _ m _ (u8s ((bs.drop (k + 2)).take m)) D _ hrd (u8s_one _) (by omega)).mono ?_
        rintro e w1 ⟨A1, c1, rfl, hv1, hb1⟩
        have hb1' : Below w.heap.size w w1 := hbq.trans (hb1.mono hbq.size)
        have hown1 : OwnList 23 1 BytesCell w1 w.heap.size u4 out := hownq.keep BytesCell.stable (Same.of_below hb1 fun _ _ h => h)
        have hlt1 := hownq.lt
        have hy : BytesCell w1 (fun b => w.heap.size ≤ b ∧ u4.ownBlock ≠ some b) [.slice A1 m c1] ((bs.drop (k + 2)).take m) :=
          ⟨_, rfl, (Bytes.of_own_new hv1).imp fun b hb _ => ⟨by have := hbq.size; omega, fun e => by have := (hlt1 b e).2; omega⟩⟩
        clear hlt1
        obtain ⟨vss, ho, ha⟩ := hown1
        have hol : out.length ≤ 65536 := by
          have h1 := Hsz.out
          have h2 : out.length ≤ sizeF out := sizeF_len out
          omega
        go_wp2_with (at_builtin; refine app_row _ rfl (.tmp 32) (.tmp 42) rfl (ho.alloc _) rfl (Reads.new (D := Any) _ [.slice A1 m c1] 1 1 _ trivial rfl) rfl (BytesCell.stable.one hy) (by omega) (by have := hb1'.size; simp; omega) ?_; intro v2 w2 hown2 hg2 hat2)
        refine ⟨⟨k + 2 + m, f - 1, out ++ [(bs.drop (k + 2)).take m], by omega, by go_num, by omega, ?_, ?_, OwnList.push BytesCell.stable ha hy hg2 hat2 hown2, (hb1'.alloc hb1'.size _).grown hg2 (by have := hb1'.size; simp; omega) (fun k hk => (ho.lt k hk).1)⟩, by simp [intOf]; omega⟩
        · rw [Hsc.out, drop2 bs k hkl hkl1]
          obtain ⟨f', rfl⟩ : ∃ f', f = f' + 1 := ⟨f - 1, by omega⟩
          rw [scanF_step f' _ _ _ m (by rw [Hx.out, Hy.out]; exact Hm.out) (by simp; have := Hnl.out; omega)]
          simp [List.drop_drop]
        · rw [sizeF_append, Hsz.out]
          have := Hnl.out
          simp [sizeF]
          omega
      · have hfin : Hid (scanF n bs = out) := by
          unfold Hid
          rw [Hsc.out, drop2 bs k hkl hkl1, scanF_stop f _ _ _ m (by rw [Hx.out, Hy.out]; exact Hm.out) (by simp; have := Hnl.out; omega)]
          simp
        go_wp2
        go_ret2
        rw [hfin.out, Hsz.out]
        obtain ⟨A1, c1, rfl, _⟩ := hownq.form
        exact ⟨A1, c1, rfl, hownq, hbq⟩
    · have hfin : Hid (scanF n bs = out) := by
        unfold Hid
        rw [Hsc.out, scanF_short f _ (by simp; have := Hnl.out; omega)]
        simp
      go_wp2
      go_ret2
      rw [hfin.out, Hsz.out]
      obtain ⟨A1, c1, rfl, _⟩ := hown.form
      exact ⟨A1, c1, rfl, hown, hb⟩
end Go.Proofs.Ytgcpclbkjplipaa
