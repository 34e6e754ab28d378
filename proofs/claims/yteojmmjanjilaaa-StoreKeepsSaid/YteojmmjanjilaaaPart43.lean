/- Contract of (*Shelf).Drop. · Contract of chunk.Cut: the pieces of bytes. · Slices of ints; append. (A shortened XNumEq, on MailSave's nums.) -/
import Derived.Test.YteojmmjanjilaaaShelfPut
import Derived.Deep.CutBlock
import Derived.Test.YteojmmjanjilaaaPart27
import Derived.Test.YteojmmjanjilaaaPart3
import Derived.Test.YteojmmjanjilaaaRd
import Derived.Deep.DeepCutAuto
import Derived.Deep.LoopGhost
import Derived.Test.YteojmmjanjilaaaProg
import Derived.Test.YteojmmjanjilaaaPart11
import Derived.KernelRfl
import Derived.WalkSpells
import Derived.Deep.QuietTactic
import Derived.BigQuiet
set_option linter.unusedVariables false
namespace Go.Proofs.Yteojmmjanjilaaa
open Go.RowKit Go.Mem Go.Chunk Go.Maps
def DropPost (w : World) (S P N : Nat) (s : Shf) (n : Nat) (e : Ending) (w' : World) : Prop :=
  e = .returned (.int .i64 0) ∧ ShelfAt w' S P N (dropF s n) ∧ GrownIn (OwnPN P N) w w'
theorem ShelfAt.grown_in {w w' : World} {S P N : Nat} {s : Shf} (h : ShelfAt w S P N s) {own : Nat → Prop} (k : GrownIn own w w') (ho : ∀ b, b = S ∨ b = P ∨ b = N → ¬ own b) : ShelfAt w' S P N s := by
  obtain ⟨h1, h2, h3⟩ := h.lt
  exact h.same fun b hb => k.block b (by rcases hb with rfl | rfl | rfl <;> assumption) (ho b hb)
set_option maxRecDepth 100000 in
set_option maxHeartbeats 2000000 in
theorem drop_any (w : World) (S P N : Nat) (s : Shf) (n : Nat) (b : Bs) (x : Nat) (hs : ShelfAt w S P N s) (hx : mget s.ps n = some (b, x)) (hx6 : x ≤ 1000000) (hb : b.length ≤ 65536) :
    Calls Try.prog 36 #[.pointer (some ⟨S, 0, none⟩), .int .i64 (n : Nat)] w (DropPost w S P N s n) := by
  have hn9 := hs.some_ hx
  have hgx : (mget s.ps n).getD ([], 0) = (b, x) := by rw [hx]; rfl
  have lk := hs.look_ok n hn9 hgx (c := true) (by rw [hx]; rfl) w rfl
  have c0 := hs.blk.cell 0
  simp only [List.getElem?_cons_zero] at c0
  have lS := hs.blk.lt
  have ha : GrownIn (OwnPN P N) w (w.alloc (.cells #[.string ⟨b.toArray⟩, .int .i64 (x : Nat)] 98)) := (GrownIn.refl _ _).alloc _
  have hs0 : ShelfAt (w.alloc (.cells #[.string ⟨b.toArray⟩, .int .i64 (x : Nat)] 98)) S P N s := hs.below ((Below.refl _ _).alloc (Nat.le_refl _) _)
  have xw : IntKind.i64.wrap ((x : Int) - 1) = (x : Int) - 1 := IntWalk.i64_in _ (by omega)
  obtain ⟨hlS, hlP, hlN⟩ := hs.lt
  have HS := Lib.hid hs
  have HX := Lib.hid hx
  have HG := Lib.hid ha
  have HS0 := Lib.hid hs0
  have Hb := Lib.hid hb
  clear hs hx ha hs0 hb
  by_cases h1 : 1 < x
  · have g1 : decide ((x : Int) - 1 > 0) = true := decide_eq_true (by omega)
    go_enter Try.func36, Try.ntmps36
    go_wp2_with (fail)
    obtain ⟨W1, hW1⟩ : ∃ W1, W1 = w.alloc (.cells #[.string ⟨b.toArray⟩, .int .i64 ((x : Int) - 1)] 98) := ⟨_, rfl⟩
    have hs1 : ShelfAt W1 S P N s := by rw [hW1]; exact HS.out.below ((Below.refl _ _).alloc (Nat.le_refl _) _)
    have hg1 : GrownIn (OwnPN P N) w W1 := by rw [hW1]; exact (GrownIn.refl _ _).alloc _
    have hb1 : Blk W1 w.heap.size 98 [.string ⟨b.toArray⟩, .int .i64 ((x : Int) - 1)] := by rw [hW1]; exact Blk.new w _ _
    rw [← hW1]
    have hRP : w.heap.size ≠ P := by omega
    have hRN : w.heap.size ≠ N := by omega
    generalize w.heap.size = R at hb1 hRP hRN ⊢
    have c0 := hs1.blk.cell 0
    simp only [List.getElem?_cons_zero] at c0
    have lS := hs1.blk.lt
    have e0 := hb1.cell 0
    have e1 := hb1.cell 1
    simp only [List.getElem?_cons_zero, List.getElem?_cons_succ] at e0 e1
    have lR := hb1.lt
    have HS1 := Lib.hid hs1
    have HG1 := Lib.hid hg1
    have HB1 := Lib.hid hb1
    clear hW1 hs1 hg1 hb1
    go_still_tail 6, (by kernel_rfl)
    change wpList _ _ _ _ _ (World.drew W1)
    go_wp2_with (refine wpList_mupdate _ rfl (.tmp 28) (.tmp 29) (.tmp 30) _ rfl enc_N Try.underlying85 (b := P) (key := n) rfl (by exact HS1.out.ps.same rfl) rfl hn9 ?_; intro w2 hm2 hg2)
    go_ret
    have hm3 : MapOf encN okN w2 P ((mput s.ps n (b, x - 1)).map fun p => (p.1, pv p.2)) := by
      rw [put_map (f := pv)]
      have e : pv (b, x - 1) = .agg #[.string ⟨b.toArray⟩, .int .i64 ((x : Int) - 1)] := by unfold pv; rw [show (((b, x - 1) : Bs × Nat).2 : Int) = (x : Int) - 1 by simp only; omega]
      rw [e]
      exact hm2
    have hg3 : W1.grownBy w2 (some P) := ⟨hg2.os, hg2.tape, hg2.output, hg2.size, hg2.block⟩
    have hs2 := ShelfAt.putP (w := W1) (w' := w2) HS1.out hm3 hg3
    have hd : dropF s n = ⟨mput s.ps n (b, x - 1), s.ns⟩ := by unfold dropF; rw [HX.out]; simp only; rw [if_pos h1]
    refine ⟨rfl, by rw [hd]; exact hs2, HG1.out.trans (GrownIn.of_grown (own := OwnPN P N) hg3 (by intro k hk; injection hk with hk; exact .inl hk.symm)) (fun _ h => .inl h)⟩
  · have g1 : decide ((x : Int) - 1 > 0) = false := decide_eq_false (by omega)
    go_enter Try.func36, Try.ntmps36
    go_upto_region 8 with (fail)
    obtain ⟨W1, hW1⟩ : ∃ W1, W1 = w.alloc (.cells #[.string ⟨b.toArray⟩, .int .i64 ((x : Int) - 1)] 98) := ⟨_, rfl⟩
    have hs1 : ShelfAt W1 S P N s := by rw [hW1]; exact HS.out.below ((Below.refl _ _).alloc (Nat.le_refl _) _)
    have hg1 : GrownIn (OwnPN P N) w W1 := by rw [hW1]; exact (GrownIn.refl _ _).alloc _
    have hb1 : Blk W1 w.heap.size 98 [.string ⟨b.toArray⟩, .int .i64 ((x : Int) - 1)] := by rw [hW1]; exact Blk.new w _ _
    rw [← hW1]
    have hRP : w.heap.size ≠ P := by omega
    have hRN : w.heap.size ≠ N := by omega
    generalize w.heap.size = R at hb1 hRP hRN ⊢
    have c0 := hs1.blk.cell 0
    simp only [List.getElem?_cons_zero] at c0
    have lS := hs1.blk.lt
    have e0 := hb1.cell 0
    have e1 := hb1.cell 1
    simp only [List.getElem?_cons_zero, List.getElem?_cons_succ] at e0 e1
    have lR := hb1.lt
    have HS1 := Lib.hid hs1
    have HG1 := Lib.hid hg1
    have HB1 := Lib.hid hb1
    clear hW1 hs1 hg1 hb1
    go_wp2_with (refine wpList_mdelete _ rfl (.tmp 34) (.tmp 35) _ rfl enc_N Try.underlying85 (b := P) (key := n) rfl (by exact HS1.out.ps) rfl hn9 ?_; intro w2 hm2 hg2; have hm3 : MapOf encN okN w2 P ((mdel s.ps n).map fun p => (p.1, pv p.2)) := (by rw [del_map (f := pv)]; exact hm2); have hs2 := ShelfAt.putP (w := W1) (w' := w2) HS1.out hm3 hg2; have hgg2 := HG1.out.trans (GrownIn.of_grown (own := OwnPN P N) hg2 (by intro k hk; injection hk with hk; exact .inl hk.symm)) (fun _ h => .inl h); have hb2 := HB1.out.grown hg2 (by simp [hRP]); clear hm2 hg2 hm3)
    have c1 := hs2.blk.cell 1
    simp only [List.getElem?_cons_zero, List.getElem?_cons_succ] at c1
    have lS2 := hs2.blk.lt
    have e2 := hb2.cell 0
    simp only [List.getElem?_cons_zero] at e2
    have lR2 := hb2.lt
    have HS2 := Lib.hid hs2
    have HG2 := Lib.hid hgg2
    clear hs2 hgg2 hb2 HS1 HG1 HB1 c0 lS e0 e1 lR
    go_wp2_with (fail)
    go_still_tail 6, (by kernel_rfl)
    change wpList _ _ _ _ _ (World.drew w2)
    go_wp2_with (refine wpList_mdelete _ rfl (.tmp 39) (.tmp 41) _ rfl enc_B Try.underlying86 (b := N) (key := b) rfl (by exact HS2.out.ns.same rfl) rfl Hb.out ?_; intro w3 hm3 hg3)
    go_ret
    have hm4 : MapOf encB okB w3 N ((mdel s.ns b).map fun p => (p.1, encN p.2)) := by rw [del_map (f := encN)]; exact hm3
    have hg4 : w2.grownBy w3 (some N) := ⟨hg3.os, hg3.tape, hg3.output, hg3.size, hg3.block⟩
    have hs3 := ShelfAt.putN (w := w2) (w' := w3) HS2.out hm4 hg4
    have hd : dropF s n = ⟨mdel s.ps n, mdel s.ns b⟩ := by unfold dropF; rw [HX.out]; simp only; rw [if_neg h1]
    exact ⟨rfl, by rw [hd]; exact hs3, HG2.out.trans (GrownIn.of_grown (own := OwnPN P N) hg4 (by intro k hk; injection hk with hk; exact .inr hk.symm)) (fun _ h => .inl h)⟩
end Go.Proofs.Yteojmmjanjilaaa
set_option linter.unusedVariables false
namespace Go.Mem
def lenOf : Value → Nat
  | .slice _ n _ => n
  | _ => 0
end Go.Mem
namespace Go.Proofs.Yteojmmjanjilaaa
open Go.RowKit Go.Mem Go.Chunk
theorem cutN_next (bs : List UInt8) (j : Nat) (hj : j < bs.length) (h32 : j < 32) : cutN (32 - j) (bs.drop j) = if bs[j] = 10 then 1 else 1 + cutN (32 - (j + 1)) (bs.drop (j + 1)) := by
  obtain ⟨k, hk⟩ : ∃ k, 32 - j = k + 1 := ⟨31 - j, by omega⟩
  rw [hk, List.drop_eq_getElem_cons hj, cutN, show 32 - (j + 1) = k by omega]
theorem cutN_stop (bs : List UInt8) (j : Nat) (h : ¬ (j < bs.length ∧ j < 32)) : cutN (32 - j) (bs.drop j) = 0 := by
  by_cases h32 : j < 32
  · rw [List.drop_eq_nil_of_le (by omega)]
    cases 32 - j <;> rfl
  · rw [show 32 - j = 0 by omega]
    rfl

set_option maxRecDepth 100000 in
set_option maxHeartbeats 1000000 in
theorem cutc_any (A : Option Addr) (n c : Nat) (bs : List UInt8) (D : Nat → Prop) (w : World) (hr : Reads w D 1 A n (u8s bs)) (hnc : n ≤ c) (hc : c ≤ maxLen) (hn : n ≤ 65536) :
    Calls Try.prog 34 #[.slice A n c] w fun e w' => ∃ A c, e = .returned (.slice A (cutF n bs).length c) ∧ OwnList 62 1 BytesCell w' w.heap.size (.slice A (cutF n bs).length c) (cutF n bs) ∧ Below w.heap.size w w' := by
  have hcl := cutF_len n bs
  go_enter Try.func34, Try.ntmps34
  go_wp2_with (fail)
  go_loopw [0, 3] (fun v0 v wr => ∃ (bs1 : List UInt8) (f : Nat) (out : List (List UInt8)) (A1 : Option Addr) (n1 c1 : Nat), v0 = .slice A1 n1 c1 ∧ n1 ≤ c1 ∧ c1 ≤ maxLen ∧ n1 ≤ f ∧ n1 ≤ 65536 ∧ Reads w D 1 A1 n1 (u8s bs1) ∧ Hid (cutF n bs = out ++ cutF f bs1) ∧ OwnList 62 1 BytesCell wr w.heap.size v out ∧ Below w.heap.size w wr) (fun v0 _ _ => lenOf v0)
  case atStart => exact ⟨bs, n, [], A, n, c, rfl, hnc, hc, Nat.le_refl _, hn, hr, by unfold Hid; simp, OwnList.nil _ _ _ _, Below.refl _ _⟩
  case round =>
    obtain ⟨bs1, f, out, A1, n1, c1, rfl, hn1, hc1, hf, hn5, hr1, Hsc, hown, hb⟩ := hrel
    have hnl : n1 = bs1.length := by have := hr1.len; rwa [u8s_length] at this
    have Hnl := Lib.hid hnl
    clear hnl hr
    unfold maxLen at hc1
    by_cases h0 : 0 < n1
    · have hne : bs1 ≠ [] := by rintro rfl; have := Hnl.out; simp at this; omega
      have hpos : 1 ≤ cutN 32 bs1 := cutN_pos 31 bs1 hne
      have hle := cutN_le 32 bs1
      rw [← Hnl.out] at hle
      obtain ⟨b, off, u0, rfl, hD, _, _⟩ := hr1.at_ (k := 0) h0
      have hcell : ∀ j (hj : j < bs1.length), wr.cell? ⟨b, off + j, none⟩ = some (.int .u8 (bs1[j].toNat : Int)) := fun j hj => by
        obtain ⟨b', off', u1, e, _, hu1, hc1⟩ := hr1.at_ (k := j) (by have := Hnl.out; omega)
        injection e with e
        injection e with e1 e2
        subst e1 e2
        rw [u8s_at bs1 j hj] at hu1
        injection hu1 with hu1
        subst hu1
        exact (Same.any (D := Any) hb).cell trivial hc1
      have Hcell := Lib.hid hcell
      clear hcell
      go_upto_block 2 with (fail)
      go_cut [4] (fun s4 wc => s4 = .int .i64 (cutN 32 bs1 : Nat) ∧ wc = wr)
      case first =>
        go_wp2_with (fail)
        go_loop [4] (fun v4 => ∃ j : Nat, j ≤ 32 ∧ j ≤ n1 ∧ v4 = .int .i64 j ∧ Hid (cutN 32 bs1 = j + cutN (32 - j) (bs1.drop j))) (fun v4 => 32 - (intOf v4).toNat)
        case atStart => exact ⟨0, by omega, by omega, rfl, by unfold Hid; simp⟩
        case round =>
          obtain ⟨j, hj1, hj2, rfl, Hj⟩ := hrel
          by_cases hj : j < n1 ∧ j < 32
          · obtain ⟨hj3, hj4⟩ := hj
            have hjb : j < bs1.length := by have := Hnl.out; omega
            have g0 := Hcell.out j hjb
            have e0 := cutN_next bs1 j hjb hj4
            have hb256 := UInt8.toNat_lt bs1[j]
            by_cases h10 : bs1[j] = 10
            · have e1 : cutN 32 bs1 = j + 1 := by rw [Hj.out, e0, if_pos h10]
              rw [h10] at g0
              have He1 := Lib.hid e1
              clear e0 e1 h10 hb256 Hj
              go_wp2_with (fail)
              go_meet
              exact ⟨by rw [He1.out]; go_num, rfl⟩
            · have e1 : Hid (cutN 32 bs1 = (j + 1) + cutN (32 - (j + 1)) (bs1.drop (j + 1))) := by
                unfold Hid
                rw [Hj.out, e0, if_neg h10]
                omega
              have hx : bs1[j].toNat ≠ 10 := fun h => h10 (UInt8.toNat_inj.1 (by rw [h]; rfl))
              generalize bs1[j].toNat = x at g0 hx hb256
              have hx1 : ((x : Int) == 10) = false := by simp; omega
              clear e0 h10 Hj
              go_wp2_with (fail)
              go_round
              case rel => exact ⟨j + 1, by omega, by omega, by go_num, e1⟩
              case measure => simp [intOf]; omega
          · have e1 : cutN 32 bs1 = j := by rw [Hj.out, cutN_stop bs1 j (by rw [← Hnl.out]; exact hj)]; omega
            have He1 := Lib.hid e1
            clear e1 Hj
            by_cases hj3 : j < n1
            · go_wp2_with (fail)
              go_meet
              exact ⟨by rw [He1.out], rfl⟩
            · go_wp2_with (fail)
              go_meet
              exact ⟨by rw [He1.out], rfl⟩
      case rest =>
        obtain ⟨rfl, rfl⟩ := hcut
        obtain ⟨m, hm⟩ : ∃ m, m = cutN 32 bs1 := ⟨_, rfl⟩
        rw [← hm] at hpos hle ⊢
        have Hm := Lib.hid hm
        clear hm Hcell
        obtain ⟨hs1, hr2⟩ := slice_h 62 5 Try.underlying62 size_u8 hr1 hn1 m hle.2 m rfl
        obtain ⟨A', hs2, hr3⟩ := slice_l 62 5 Try.underlying62 size_u8 hr1 hn1 m hle.2 m rfl
        simp only [Nat.mul_one, u8s_drop, u8s_take] at hr2 hr3
        have CL := Lib.hid (clone_any _ m c1 (u8s (bs1.take m)) D wc (hr2.keep (Same.any hb)) (u8s_one _) (by omega))
        clear hr2 hr1
        go_wp2_with (fail)
        refine CL.out.mono ?_
        rintro e w1 ⟨A2, c2, rfl, hv2, hb1⟩
        have hb1' : Below w.heap.size w w1 := hb.trans (hb1.mono hb.size)
        have hown1 := hown.keep BytesCell.stable (Same.of_below hb1 fun _ _ h => h)
        have hlt1 := hown.lt
        have hy : BytesCell w1 (fun b => w.heap.size ≤ b ∧ u3.ownBlock ≠ some b) [.slice A2 m c2] (bs1.take m) :=
          ⟨_, rfl, (Bytes.of_own_new hv2).imp fun b hb' _ => ⟨by have := hb.size; omega, fun e => by have := (hlt1 b e).2; omega⟩⟩
        clear hlt1 CL
        obtain ⟨vs1, ho, ha1⟩ := hown1
        have hol : out.length ≤ 65536 := by have h := congrArg List.length Hsc.out; simp at h; omega
        go_wp2_with (at_builtin; refine app_row _ rfl (.tmp 24) (.tmp 29) rfl (ho.alloc _) rfl (Reads.new (D := Any) _ [.slice A2 m c2] 1 1 _ trivial rfl) rfl (BytesCell.stable.one hy) (by omega) (by have := hb1'.size; simp; omega) ?_; intro v2 w2 hown2 hg2 hat2)
        refine ⟨⟨bs1.drop m, f - 1, out ++ [bs1.take m], A', n1 - m, c1 - m, rfl, by omega, by unfold maxLen; omega, by omega, by omega, hr3, ?_, OwnList.push BytesCell.stable ha1 hy hg2 hat2 hown2, (hb1'.alloc hb1'.size _).grown hg2 (by have := hb1'.size; simp; omega) (fun k hk => (ho.lt k hk).1)⟩, by simp [lenOf]; omega⟩
        unfold Hid
        obtain ⟨f', rfl⟩ : ∃ f', f = f' + 1 := ⟨f - 1, by omega⟩
        rw [Hsc.out, cutF_step f' bs1 hne, Hm.out]
        simp
    · obtain rfl : n1 = 0 := by omega
      have hnil : bs1 = [] := List.eq_nil_of_length_eq_zero Hnl.out.symm
      have hfin : cutF n bs = out := by rw [Hsc.out, hnil, cutF_nil, List.append_nil]
      have Hfin := Lib.hid hfin
      clear hnil hfin Hsc
      obtain ⟨A2, c2, rfl, _⟩ := hown.form
      go_wp2_with (fail)
      go_ret
      rw [Hfin.out]
      exact ⟨A2, c2, rfl, hown, hb⟩
end Go.Proofs.Yteojmmjanjilaaa
set_option linter.unusedVariables false
namespace Go.Mem
open Go.RowKit
def flags (l : List Bool) : List Value := l.map .bool
theorem nums_append (a b : List Int) : nums (a ++ b) = nums a ++ nums b := by simp [nums]
theorem nums_take (a : List Int) (k : Nat) : (nums a).take k = nums (a.take k) := by simp [nums]
theorem nums_drop (a : List Int) (k : Nat) : (nums a).drop k = nums (a.drop k) := by simp [nums]
theorem nums_one (l : List Int) : ∀ u ∈ nums l, u.oneCell' = true := by
  intro u hu
  obtain ⟨b, _, rfl⟩ := List.mem_map.1 hu
  rfl
theorem flags_length (l : List Bool) : (flags l).length = l.length := by simp [flags]
theorem flags_at (l : List Bool) (k : Nat) (h : k < l.length) : (flags l)[k]? = some (.bool l[k]) := by simp [flags, h]
/-- r is the first place of x, or -1 -/
def IdxOf {α : Type} (l : List α) (x : α) (r : Int) : Prop := (r = -1 ∧ ∀ i : Nat, l[i]? ≠ some x) ∨ (∃ k : Nat, r = k ∧ k < l.length ∧ l[k]? = some x ∧ ∀ i : Nat, i < k → l[i]? ≠ some x)
theorem IdxOf.neg {α : Type} {l : List α} {x : α} {r : Int} (h : IdxOf l x r) (hn : ∀ i : Nat, l[i]? ≠ some x) : r = -1 := by
  rcases h with ⟨h, _⟩ | ⟨k, _, _, h, _⟩
  · exact h
  · exact absurd h (hn k)
theorem IdxOf.at_ {α : Type} {l : List α} {x : α} {r : Int} (h : IdxOf l x r) {k : Nat} (hk : l[k]? = some x) (hf : ∀ i : Nat, i < k → l[i]? ≠ some x) : r = k := by
  rcases h with ⟨_, h⟩ | ⟨j, rfl, _, h1, h2⟩
  · exact absurd hk (h k)
  · rcases Nat.lt_trichotomy j k with hj | rfl | hj
    · exact absurd h1 (hf j hj)
    · rfl
    · exact absurd hk (h2 k hj)
end Go.Mem
namespace Go.Proofs.Yteojmmjanjilaaa
open Go.RowKit Go.Mem
theorem info_int : (Try.prog.info? 3).map (fun i => (i.zero, i.size, i.bytes)) = some (some (.int .i64 0), 1, 8) := by kernel_rfl
theorem size_int : (Try.prog.info? 3).map (·.size) = some 1 := by kernel_rfl
/-- append of ints onto a row of the call's own -/
theorem app_int (w : World) {ops : Array Oper} {rest : List Oper} {o : Oper} {a : Act} {Q : Exit → Act → World → Prop} (hgd : o.guard = none) (s x : Operand)
    (ho : o.op = .call { callee := .builtin .append, args := #[s, x], argTypes := #[46, 46] })
    {base : Nat} {v : Value} {n : Nat} {xs : List Value} (hown : w.ownsRow base 3 1 v n xs) (hs : a.eval s = v)
    {D : Nat → Prop} {A : Option Addr} {m : Nat} {news : List Value} (hr : Reads w D 1 A m news) {c : Nat} (hx : a.eval x = .slice A m c) (h1 : ∀ u ∈ news, u.oneCell' = true)
    (h63 : n + m ≤ 8796093022208) (hbase : base ≤ w.heap.size)
    (h : ∀ v' w', w'.ownsRow base 3 1 v' (n + m) (xs ++ news) → w.grownBy w' v.ownBlock → (v'.ownBlock = v.ownBlock ∨ v'.ownBlock = some w.heap.size) → wpList Try.prog ops Q rest (a.put o.dst v') w') : wpList Try.prog ops Q (o :: rest) a w := by
  obtain ⟨i0, hi0, hz0, hz1, hz2⟩ := info_parts info_int
  exact wpList_append_any w hgd s x _ ho base _ i0 _ 1 8 Try.underlying46 hi0 hz0 hz1 hz2 rfl (by omega) v n xs hs hown D A m c news hx hr h1 (by simp only [maxLen]; omega) (by omega) hbase h

end Go.Proofs.Yteojmmjanjilaaa
