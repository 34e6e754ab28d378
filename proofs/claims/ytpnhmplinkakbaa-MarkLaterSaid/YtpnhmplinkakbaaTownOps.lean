/- The keys of the channels' map; contracts of package mark's spread. -/
import Derived.Test.YtpnhmplinkakbaaTown
import Derived.Maps.Keyed
import Derived.DeepKeys4
set_option linter.unusedVariables false
namespace Go.Proofs.Ytpnhmplinkakbaa
open Go.RowKit Go.Mem Go.Maps
theorem key_at (k : Nat × Nat) (hk : okK k) : ∃ x, keyOf Try.prog 89 (encK k) = some x := by
  obtain ⟨a, b⟩ := k
  obtain ⟨h1, h2⟩ := hk
  simp only at h1 h2
  have hu := Try.underlying89
  have hi := Try.underlying3
  have hkt : Try.prog.keyType 89 = true := by kernel_rfl
  have hsz : Try.prog.types.size + 1 = (Try.prog.types.size - 1) + 1 + 1 := by kernel_rfl
  have c1 : Try.prog.cellsOf 89 = 2 := by kernel_rfl
  have c2 : Try.prog.cellsOf 3 = 1 := by kernel_rfl
  have wf : ∀ n : Nat, n < 1000 → (Lit.int .i64 (n : Int)).wf = true := fun n hn => by
    have h0 : IntKind.i64.min = -9223372036854775808 := by decide
    simp [Lit.wf, h0]
    omega
  have hf : (encK (a, b)).formed Try.prog 89 = true := by simp [Value.formed, encK, hu, c1]
  have hc : (encK (a, b)).cells.toList = [.int .i64 (a : Nat), .int .i64 (b : Nat)] := rfl
  unfold keyOf
  simp only [hu]
  rw [hkt, hf]
  simp only [Bool.and_self, if_true]
  rw [hsz, hc]
  generalize Try.prog.types.size - 1 = d
  have l1 : ∀ n : Nat, n < 1000 → Try.prog.keyLits (d + 1) 3 [.int .i64 (n : Int)] = some [.int .i64 n] := fun n hn => by
    unfold Program.keyLits
    simp [hi, wf n hn]
  unfold Program.keyLits
  simp only [hu]
  rw [if_pos (by rw [c1]; rfl)]
  simp [c2, List.range_succ, l1 a h1, l1 b h2]
theorem enc_ways : Enc Try.prog 89 encK okK where
  keyed := Keyed.of_law (deep_law_laid (m := 5) (by kernel_rfl) (by omega) (by decide +kernel) (by kernel_rfl) (by kernel_rfl))
  inj := encK_inj
  key := key_at
theorem zero_row : ∀ w : World, (zeroValue 22).run Try.prog w = .ok (.slice none 0 0) w := fun _ => by kernel_rfl
theorem look_way {w : World} {m : Nat} {l : List ((Nat × Nat) × Value)} (h : MapOf encK okK w m l) (a b : Nat) (ha : a < 1000) (hb : b < 1000) (W : World) (hW : W.heap[m]? = w.heap[m]?) :
    (Instr.lookup 110 (.map (some m)) (.agg #[.int .i64 (a : Nat), .int .i64 (b : Nat)]) false).run Try.prog W = .ok ((mget l (a, b)).getD (.slice none 0 0)) W := by
  have := (h.same hW).lookup enc_ways Try.underlying110 zero_row (a := (a, b)) ⟨ha, hb⟩ false
  simp only [Bool.false_eq_true, if_false] at this
  exact this
theorem Seg.alloc {w : World} {e : TypeId} {size n : Nat} {v : Value} {xs : List Value} (h : Seg w e size v n xs) (o : Obj) : Seg (w.alloc o) e size v n xs := h.keep fun b hb => Below.heap_alloc w o b (h.lt b hb)
theorem put_way {w : World} {m : Nat} {l : List ((Nat × Nat) × Value)} (h : MapOf encK okK w m l) (a b : Nat) (ha : a < 1000) (hb : b < 1000) (v : Value) :
    ∃ w', (Instr.mapUpdate 110 (.map (some m)) (.agg #[.int .i64 (a : Nat), .int .i64 (b : Nat)]) v).run Try.prog w = .ok () w' ∧ MapOf encK okK w' m (mput l (a, b) v) ∧ w.grownBy w' (some m) :=
  h.update enc_ways Try.underlying110 (a := (a, b)) ⟨ha, hb⟩ v
/-- append of one int to a channel, in a region that draws its order -/
theorem step_app_seg (w : World) {ops : Array Oper} {o : Oper} {a : Act} {K : Act → World → Prop} {Q : Exit → Act → World → Prop} {E : Prop} (hgd : o.guard = none) (s x : Operand)
    (ho : o.op = .call { callee := .builtin .append, args := #[s, x], argTypes := #[22, 22] })
    {v : Value} {n : Nat} {xs : List Value} (hseg : Seg w 3 1 v n xs) (hs : a.eval s = v)
    {D : Nat → Prop} {A : Option Addr} {m : Nat} {news : List Value} (hr : Reads w D 1 A m news) {c : Nat} (hx : a.eval x = .slice A m c) (h1 : ∀ u ∈ news, u.oneCell' = true) (hm : 0 < m)
    (h63 : n + m ≤ 8796093022208)
    (h : ∀ v' w', Seg w' 3 1 v' (n + m) (xs ++ news) → w.grownBy w' v.ownBlock → (∀ b, v'.ownBlock = some b → v.ownBlock = some b ∨ w.heap.size ≤ b) → K (a.put o.dst v') w') :
    if Region.wanted o (yielded ops a.tmps) = true then Oper.wp Try.prog o a w K Q else E := by
  obtain ⟨i0, hi0, hz0, hz1, hz2⟩ := info_parts info_int
  obtain ⟨v', w', hrun, r1, r2, r3⟩ := hseg.append (P := Try.prog) 22 o.type i0 _ 8 Try.underlying22 hi0 hz0 hz1 hz2 rfl (by omega) (c := c) hr hm h1 (by simp only [maxLen]; omega) (by omega)
  have hw : Region.wanted o (yielded ops a.tmps) = true := by simp [Region.wanted, hgd]
  rw [if_pos hw]
  unfold Oper.wp execOp
  simp only [ho, resolve, invoke, builtin, Sem.run_bind, Sem.run_pure, Result.andThen_ok, List.map_toArray, List.map_cons, List.map_nil, hs, hx, hrun]
  exact h v' w' r1 r2 r3

/-- a channel has a new row, and the map holds it -/
theorem town_row {wr w2 w3 : World} {B T : Nat} {col : Nat → Col} {s : Tn} {C cC : Nat} {curC : List Value} {S cS : Nat} {curS : List Value} {m : Nat} {l : List ((Nat × Nat) × Value)} (h : TownW wr B T col s C cC curC S cS curS m l) (hB : B ≤ wr.heap.size) {k : Nat × Nat} {v v2 : Value} {c : List Int}
    (hcol : ∀ b, v.ownBlock = some b → col b = .way k) (hgw : wr.grownBy w2 v.ownBlock) (hseg : Seg w2 3 1 v2 c.length (nums c)) (hat : ∀ b, v2.ownBlock = some b → v.ownBlock = some b ∨ wr.heap.size ≤ b) (hm3 : MapOf encK okK w3 m (mput l k v2)) (hg3 : w2.grownBy w3 (some m)) :
    TownW w3 B T (recol col wr.heap.size (.way k)) ⟨s.coins, s.sides, mput s.ways k c⟩ C cC curC S cS curS m (mput l k v2) ∧ GrownIn (fun b => B ≤ b) wr w3 := by
  have hg : GrownIn (fun b => col b = .way k ∨ b = m) wr w3 := (GrownIn.of_grown hgw fun b hb => .inl (hcol b hb)).trans (own' := fun b => b = m) (GrownIn.of_grown hg3 fun b hb => by injection hb with hb; exact hb.symm) fun b hb => .inl (.inr hb)
  refine ⟨h.way hB hg hm3 (hseg.keep fun b hb => hg3.block b (hseg.lt b hb) fun e => ?_) fun b hb => (hat b hb).imp (hcol b) id, ⟨hg.os, hg.tape, hg.output, hg.size, fun b hb hn => hg.block b hb fun e => hn ?_⟩⟩
  · injection e with e
    subst e
    rcases hat b hb with e | e
    · have := hcol b e
      rw [h.cm] at this
      cases this
    · have := h.m_lt
      omega
  · rcases e with e | rfl
    · exact h.own (by simp) b e
    · exact h.own (by simp) b h.cm
def DoPost (w : World) (B T : Nat) (s' : Tn) (e : Ending) (w' : World) : Prop := ∃ col', e = .returned (.tuple #[]) ∧ TownAt w' B T col' s' ∧ GrownIn (fun b => B ≤ b) w w'
set_option maxRecDepth 100000 in
set_option maxHeartbeats 1000000 in
theorem spread_any (w : World) (B T : Nat) (col : Nat → Col) (s : Tn) (a : Nat) (h : TownAt w B T col s) (hB : B ≤ w.heap.size) (ha : a < s.coins.length) (hn : s.coins.length ≤ 8) (hl : ∀ b, (chan s.ways a b).length ≤ 1000) :
    Calls Try.prog 49 #[.pointer (some ⟨T, 0, none⟩), .int .i64 a] w (DoPost w B T ⟨s.coins, s.sides, spreadK a s.coins.length s.ways⟩) := by
  obtain ⟨C, cC, curC, S, cS, curS, m, l, h⟩ := h
  have c0 := h.blk.cell 0
  simp only [List.getElem?_cons_zero] at c0
  have lT := h.blk.lt
  have Hl := Lib.hid hl
  have H0 := Lib.hid h
  clear hl h
  generalize hN : s.coins.length = n at c0 ha hn ⊢
  have HN := Lib.hid hN
  clear hN
  go_enter Try.func49, Try.ntmps49
  go_wp2_with (fail)
  go_loopw [10] (fun i wr => ∃ k col' l', k ≤ n ∧ i = .int .i64 (k : Nat) ∧ Hid (TownW wr B T col' ⟨s.coins, s.sides, spreadK a k s.ways⟩ C cC curC S cS curS m l') ∧ GrownIn (fun b => B ≤ b) w wr) (fun i _ => n - (intOf i).toNat)
  case atStart => exact ⟨0, col, l, Nat.zero_le _, rfl, H0, GrownIn.refl _ _⟩
  case round =>
    obtain ⟨k, col', l', hk, rfl, HT, hg⟩ := hrel
    by_cases hlt : k < n
    · by_cases hka : k = a
      · subst hka
        have e : spreadK k (k + 1) s.ways = spreadK k k s.ways := by rw [spread_succ, if_pos rfl]
        have He := Lib.hid e
        clear e
        go_wp2_with (fail)
        exact ⟨⟨k + 1, col', l', by omega, by go_num, by rw [He.out]; exact HT, hg⟩, by simp [intOf]; omega⟩
      · have hne : ((k : Int) != (a : Int)) = true := by simp; omega
        have hne' : ((k : Int) == (a : Int)) = false := by simp; omega
        have e : spreadK a (k + 1) s.ways = push (spreadK a k s.ways) a k (-1) := by rw [spread_succ, if_neg hka]
        have He := Lib.hid e
        obtain ⟨hseg, hcol⟩ := HT.out.ws.at_ a k
        have hch : chan (spreadK a k s.ways) a k = chan s.ways a k := by rw [chan_spread, if_neg (by omega)]
        have hcl : (chan (spreadK a k s.ways) a k).length ≤ 1000 := by rw [hch]; exact Hl.out k
        have HL := Lib.hid (fun W hW => look_way HT.out.mp a k (by omega) (by omega) W hW)
        have c2 := HT.out.blk.cell 2
        simp only [List.getElem?_cons_succ, List.getElem?_cons_zero] at c2
        have lT2 := HT.out.blk.lt
        have lm2 := HT.out.m_lt
        obtain ⟨A1, n1, e1⟩ : ∃ A1 n1, (mget l' (a, k)).getD (.slice none 0 0) = .slice A1 (chan (spreadK a k s.ways) a k).length n1 := by
          obtain ⟨A1, c1, e1, _⟩ := hseg.form
          exact ⟨A1, c1, e1⟩
        simp only at hseg hcol
        rw [e1] at hseg hcol HL
        generalize hL : (chan (spreadK a k s.ways) a k).length = L at hseg hcol HL hcl
        have HLn := Lib.hid hL
        have Hseg := Lib.hid hseg
        have Hcol := Lib.hid hcol
        clear e e1 hch hL hseg hcol hka
        have hlk := HL.out wr.drew rfl
        have hlk2 := HL.out ((wr.alloc (.cells #[.int .i64 (-1)] 3)).drew) (Below.heap_alloc wr _ _ lm2)
        go_wp2_with (fail)
        have nT : (Value.slice A1 L n1).ownBlock ≠ some T := fun e => by have := Hcol.out T e; rw [HT.out.cT] at this; cases this
        have nm : (Value.slice A1 L n1).ownBlock ≠ some m := fun e => by have := Hcol.out m e; rw [HT.out.cm] at this; cases this
        have HnT := Lib.hid nT
        have Hnm := Lib.hid nm
        clear nT nm
        go_region_held3 (fun w' => w'.cell? ⟨T, 2, none⟩ = some (.map (some m))) (first | go_keep | exact c22 | exact c23)
          ((refine step_app_seg _ rfl (.tmp 30) (.tmp 31) (by rfl) (v := .slice A1 L n1) (n := L) (xs := nums (chan (spreadK a k s.ways) a k)) (A := some ⟨wr.heap.size, 0, none⟩) (m := 1) (news := [.int .i64 (-1)]) (c := 1) (D := Any) (by exact Seg.alloc Hseg.out (.cells #[.int .i64 (-1)] 3)) rfl (by exact Reads.new (D := Any) wr [.int .i64 (-1)] 1 1 3 trivial rfl) rfl (by simp [Value.oneCell']) (by omega) (by omega) ?_; intro v2 w2 hseg2 hg2 hat2; have hgw := grown_of_allocd hg2; have hT2 := HT.out.blk.grown hgw (fun e => HnT.out e.symm); have c22 : w2.cell? ⟨T, 2, none⟩ = some (.map (some m)) := hT2.cell 2; have hm2 : w2.heap[m]? = wr.heap[m]? := hgw.block m lm2 (fun e => Hnm.out e.symm); obtain ⟨w3, hup, hm3, hg3⟩ := put_way (HT.out.mp.same hm2) a k (by omega) (by omega) v2; have c23 : w3.cell? ⟨T, 2, none⟩ = some (.map (some m)) := (hT2.grown hg3 (fun e => HT.out.Tm (by injection e))).cell 2))
        all_goals go_wp2_with (fail)
        all_goals
          have hr := town_row HT.out (by have := hg.size; omega) (c := chan (spreadK a k s.ways) a k ++ [-1]) Hcol.out hgw (by rw [List.length_append, HLn.out, nums_append]; exact hseg2) (fun b hb => (hat2 b hb).imp id fun e => by simp at e; omega) hm3 hg3
          refine ⟨⟨k + 1, _, _, by omega, by go_num, by rw [He.out]; exact hr.1, hg.trans hr.2 fun b hb => .inl hb⟩, by simp [intOf]; omega⟩
    · obtain rfl : k = n := by omega
      go_wp2_with (fail)
      go_end0
      exact ⟨col', rfl, ⟨C, cC, curC, S, cS, curS, m, l', HT.out⟩, hg⟩
end Go.Proofs.Ytpnhmplinkakbaa
