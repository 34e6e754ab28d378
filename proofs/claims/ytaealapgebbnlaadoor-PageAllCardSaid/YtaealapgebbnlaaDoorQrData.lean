/- Contract of page.dataEntries at the module's data. (Printed by qrdata.py.) -/
import Derived.Test.YtaealapgebbnlaaDoorQrFun
set_option linter.unusedVariables false
namespace Go.Proofs.YtaealapgebbnlaaDoor
open Go.RowKit Go.Mem Go.Md
theorem info_en : (Tryd.prog.info? 48).map (fun i => (i.zero, i.size, i.bytes)) = some (some (.agg #[.string ⟨#[]⟩, .int .i64 0, .string ⟨#[]⟩, .string ⟨#[]⟩]), 4, 56) := by kernel_rfl
theorem info_st : (Tryd.prog.info? 9).map (fun i => (i.zero, i.size, i.bytes)) = some (some (.string ⟨#[]⟩), 1, 16) := by kernel_rfl
theorem step_app_en (w : World) {ops : Array Oper} {o : Oper} {a : Act} {K : Act → World → Prop} {Q : Exit → Act → World → Prop} {E : Prop} (hgd : o.guard = none) (s x : Operand)
    (ho : o.op = .call { callee := .builtin .append, args := #[s, x], argTypes := #[43, 43] })
    {base : Nat} {v : Value} {n : Nat} {xs : List Value} (hown : w.ownsRow base 48 4 v n xs) (hs : a.eval s = v)
    {D : Nat → Prop} {A : Option Addr} {m : Nat} {news : List Value} (hr : Reads w D 4 A m news) {c : Nat} (hx : a.eval x = .slice A m c) (h1 : ∀ u ∈ news, u.oneCell' = true)
    (h63 : n + m ≤ 1099511627) (hbase : base ≤ w.heap.size)
    (h : ∀ v' w', w'.ownsRow base 48 4 v' (n + m) (xs ++ news) → w.grownBy w' v.ownBlock → (v'.ownBlock = v.ownBlock ∨ v'.ownBlock = some w.heap.size) → K (a.put o.dst v') w') :
    if Region.wanted o (yielded ops a.tmps) = true then Oper.wp Tryd.prog o a w K Q else E := by
  obtain ⟨i0, hi0, hz0, hz1, hz2⟩ := info_parts info_en
  exact step_append_any w hgd s x _ ho base _ i0 _ 4 56 Tryd.underlying43 hi0 hz0 hz1 hz2 rfl (by omega) v n xs hs hown D A m c news hx hr h1 (by simp only [maxLen]; omega) (by omega) hbase h
theorem app_en (w : World) {ops : Array Oper} {rest : List Oper} {o : Oper} {a : Act} {Q : Exit → Act → World → Prop} (hgd : o.guard = none) (s x : Operand)
    (ho : o.op = .call { callee := .builtin .append, args := #[s, x], argTypes := #[43, 43] })
    {base : Nat} {v : Value} {n : Nat} {xs : List Value} (hown : w.ownsRow base 48 4 v n xs) (hs : a.eval s = v)
    {D : Nat → Prop} {A : Option Addr} {m : Nat} {news : List Value} (hr : Reads w D 4 A m news) {c : Nat} (hx : a.eval x = .slice A m c) (h1 : ∀ u ∈ news, u.oneCell' = true)
    (h63 : n + m ≤ 1099511627) (hbase : base ≤ w.heap.size)
    (h : ∀ v' w', w'.ownsRow base 48 4 v' (n + m) (xs ++ news) → w.grownBy w' v.ownBlock → (v'.ownBlock = v.ownBlock ∨ v'.ownBlock = some w.heap.size) → wpList Tryd.prog ops Q rest (a.put o.dst v') w') : wpList Tryd.prog ops Q (o :: rest) a w := by
  obtain ⟨i0, hi0, hz0, hz1, hz2⟩ := info_parts info_en
  exact wpList_append_any w hgd s x _ ho base _ i0 _ 4 56 Tryd.underlying43 hi0 hz0 hz1 hz2 rfl (by omega) v n xs hs hown D A m c news hx hr h1 (by simp only [maxLen]; omega) (by omega) hbase h
theorem app_st (w : World) {ops : Array Oper} {rest : List Oper} {o : Oper} {a : Act} {Q : Exit → Act → World → Prop} (hgd : o.guard = none) (s x : Operand)
    (ho : o.op = .call { callee := .builtin .append, args := #[s, x], argTypes := #[32, 32] })
    {base : Nat} {v : Value} {n : Nat} {xs : List Value} (hown : w.ownsRow base 9 1 v n xs) (hs : a.eval s = v)
    {D : Nat → Prop} {A : Option Addr} {m : Nat} {news : List Value} (hr : Reads w D 1 A m news) {c : Nat} (hx : a.eval x = .slice A m c) (h1 : ∀ u ∈ news, u.oneCell' = true)
    (h63 : n + m ≤ 1099511627) (hbase : base ≤ w.heap.size)
    (h : ∀ v' w', w'.ownsRow base 9 1 v' (n + m) (xs ++ news) → w.grownBy w' v.ownBlock → (v'.ownBlock = v.ownBlock ∨ v'.ownBlock = some w.heap.size) → wpList Tryd.prog ops Q rest (a.put o.dst v') w') : wpList Tryd.prog ops Q (o :: rest) a w := by
  obtain ⟨i0, hi0, hz0, hz1, hz2⟩ := info_parts info_st
  exact wpList_append_any w hgd s x _ ho base _ i0 _ 1 16 Tryd.underlying32 hi0 hz0 hz1 hz2 rfl (by omega) v n xs hs hown D A m c news hx hr h1 (by simp only [maxLen]; omega) (by omega) hbase h
theorem below_grown {w w' : World} (h : w.grownBy w' none) : Below w.heap.size w w' := ⟨h.os, h.tape, h.output, h.size, fun k hk => h.block k hk (by simp)⟩
theorem own_below {w w' : World} {base : Nat} {e : TypeId} {size : Nat} {v : Value} {n : Nat} {xs : List Value} (h : w.ownsRow base e size v n xs) (hb : Below w.heap.size w w') : w'.ownsRow base e size v n xs :=
  h.kept (row := none) ⟨hb.os, hb.tape, hb.output, hb.size, fun k hk _ => hb.block k hk⟩ (Classical.em _)
theorem join_one (bk ok c : Nat) (S : ByteArray) (w : World) (h : w.cell? ⟨bk, ok, none⟩ = some (.string S)) (hc : 1 ≤ c) (hS : S.data.toList.length ≤ 140737488355328) :
    Calls Tryd.prog 35 #[.slice (some ⟨bk, ok, none⟩) 1 c, .string ⟨#[32, 124, 32]⟩] w fun e w' => e = .returned (.string S) ∧ Below w.heap.size w w' := by
  have hj : Lib.join [S.data.toList] (ByteArray.mk #[32, 124, 32]).data.toList = S.data.toList := by simp [Lib.join]
  have := Tryd.strings_Join bk ok c [S] ⟨#[32, 124, 32]⟩ w (fun j x hx => by
    match j, hx with
    | 0, hx => (injection hx with hx; subst hx; exact h)
    | j + 1, hx => simp at hx) (lt_of_cell h) (by simp) hc (by simp only [List.map_cons, List.map_nil]; rw [hj]; exact hS)
  simp only [List.map_cons, List.map_nil] at this
  rw [hj] at this
  exact this
/-- in the midst of dataEntries, and behind its loop -/
structure DtAt (w wr : World) (NK ND : ByteArray) (A3 : Option Addr) (c3 : Nat) (A4 : Option Addr) (c4 : Nat) : Prop where
  own : wr.ownsRow w.heap.size 48 4 (.slice A3 1 c3) 1 [.string NK, .int .i64 2, .string ND, .string (((NK ++ ByteArray.mk #[32, 111, 102, 32]) ++ ND) ++ ByteArray.mk #[])]
  mks : Reads wr Any 1 A4 1 [.string NK]
  c4 : 1 ≤ c4
  be : Below w.heap.size w wr
set_option maxRecDepth 100000 in
set_option maxHeartbeats 4000000 in
theorem data_any (AM : Option Addr) (cM : Nat) (NK ND : ByteArray) (hNK : NK = ⟨#[75]⟩) (hND : ND = ⟨#[68]⟩) (w : World) (hm : Reads w Any 2 AM 1 [.string NK, .slice none 0 0]) :
    Calls Tryd.prog 19 #[.agg #[.string ND, .slice none 0 0, .slice AM 1 cM]] w fun e w' => ∃ A c, e = .returned (.slice A 2 c) ∧ 2 ≤ c ∧ c ≤ maxLen ∧ Reads w' (fun b => w.heap.size ≤ b) 4 A 2 (ensC [enK, enD]) ∧ Below w.heap.size w w' := by
  have sK : NK.size = 1 := by rw [hNK]; rfl
  have sD : ND.size = 1 := by rw [hND]; rfl
  have HN := Lib.hid (And.intro hNK hND)
  obtain ⟨W, hW⟩ : ∃ W, W = w.alloc (.cells #[.string ND, .slice none 0 0, .slice AM 1 cM] 59) := ⟨_, rfl⟩
  obtain ⟨B, hB⟩ : ∃ B, B = w.heap.size := ⟨_, rfl⟩
  have fB : Blk W B 59 [.string ND, .slice none 0 0, .slice AM 1 cM] := by rw [hW, hB]; exact Blk.new w _ _
  have hbW : Below w.heap.size w W := by rw [hW]; exact (Below.refl _ _).alloc (Nat.le_refl _) _
  obtain ⟨bm, om, rfl, _, hmc⟩ := (hm.keep (Same.any hbW)).2 (by omega)
  have hm0 : W.cell? ⟨bm, om, none⟩ = some (.string NK) := hmc 0 _ rfl
  have hm1 : W.cell? ⟨bm, om + 1, none⟩ = some (.slice none 0 0) := hmc 1 _ rfl
  have lm := lt_of_cell hm0
  have HB := Lib.hid (And.intro fB hbW)
  have HM := Lib.hid (And.intro hm0 hm1)
  have b0 := fB.cell 0
  have b1 := fB.cell 1
  have b2 := fB.cell 2
  simp only [List.getElem?_cons_zero, List.getElem?_cons_succ] at b0 b1 b2
  have lB := fB.lt
  clear hNK hND hm hmc fB hbW
  go_enter Tryd.func19, Tryd.ntmps19
  go_upto_region 3 with (fail)
  rw [← hW, ← hB]
  clear hW hB
  go_wp2_with (fail)
  go_loopw [3, 4, 11] (fun v3 v4 i wr => (i = .int .i64 0 ∧ v3 = .slice none 0 0 ∧ v4 = .slice none 0 0 ∧ W = wr) ∨ (∃ A3 c3 A4 c4, i = .int .i64 1 ∧ v3 = .slice A3 1 c3 ∧ v4 = .slice A4 1 c4 ∧ Hid (DtAt W wr NK ND A3 c3 A4 c4))) (fun _ _ i _ => 1 - (intOf i).toNat)
  case atStart => exact .inl ⟨rfl, rfl, rfl, rfl⟩
  case round =>
    rcases hrel with ⟨rfl, rfl, rfl, rfl⟩ | ⟨A3, c3, A4, c4, rfl, rfl, rfl, HD⟩

    · go_upto_region 6 with (fail)
      obtain ⟨W1, hW1⟩ : ∃ V, V = W.alloc (.cells #[.string NK, .slice none 0 0] 56) := ⟨_, rfl⟩
      obtain ⟨M, hMM⟩ : ∃ M, M = W.heap.size := ⟨_, rfl⟩
      have fM : Blk W1 M 56 [.string NK, .slice none 0 0] := by rw [hW1, hMM]; exact Blk.new W _ _
      have bW1 : Below W.heap.size W W1 := by rw [hW1]; exact (Below.refl _ _).alloc (Nat.le_refl _) _
      rw [← hW1, ← hMM]
      clear hW1 hMM
      have m0 := fM.cell 0
      have m1 := fM.cell 1
      simp only [List.getElem?_cons_zero, List.getElem?_cons_succ] at m0 m1
      have lM := fM.lt
      go_wp2_with (fail)
      refine (descK_any NK W1).mono ?_
      rintro e W2 ⟨rfl, hb2⟩
      have fM2 := fM.below hb2 fM.lt
      have bW2 := below_next hb2 bW1
      go_upto_region 8 with (at_builtin; refine app_st _ rfl (.tmp 17) (.tmp 19) rfl (base := W.heap.size) (World.ownsRow_nil _ _ _ _) rfl (D := Any) (Reads.new (D := Any) W2 [.string NK] 1 1 9 trivial rfl) rfl (by simp [Value.oneCell']) (by omega) (by have := bW2.size; simp; omega) ?_; intro v1 W3 hown3 hg3 hat3; obtain ⟨A4, c4, rfl, _⟩ := own_form hown3; have hb3 : Below W2.heap.size W2 W3 := below_next (below_grown hg3) ((Below.refl _ _).alloc (Nat.le_refl _) _))
      have fM3 := fM2.below hb3 fM2.lt
      have bW3 := below_next hb3 bW2
      have fB3 := HB.out.1.below bW3 HB.out.1.lt
      have HR4 := Lib.hid (show Reads W3 Any 1 A4 1 [.string NK] ∧ 1 ≤ c4 from ⟨((own_reads (by omega) hown3).2.2).imp (by omega) fun _ _ _ => trivial, (own_reads (by omega) hown3).1⟩)
      have HB3 := Lib.hid bW3

      have mk : ∀ w', Below W3.heap.size W3 w' → (Below W3.heap.size W3 w' ∧ w'.cell? ⟨M, 0, none⟩ = some (.string NK) ∧ w'.cell? ⟨B, 0, none⟩ = some (.string ND) ∧ w'.cell? ⟨B, 1, none⟩ = some (.slice none 0 0)) := fun w' hb => by
        refine ⟨hb, (hb.cell (p := ⟨M, 0, none⟩) fM3.lt).trans (fM3.cell 0), (hb.cell (p := ⟨B, 0, none⟩) fB3.lt).trans (fB3.cell 0), (hb.cell (p := ⟨B, 1, none⟩) fB3.lt).trans (fB3.cell 1)⟩
      have MK := Lib.hid mk
      clear mk
      clear fM fM2 fM3 fB3 m0 m1 lM bW1 bW2 bW3 hb2 hb3 hown3 hg3 hat3
      obtain ⟨hbe0, z0, z1, z2⟩ := MK.out W3 (Below.refl _ _)
      have hbd : Below W3.heap.size W3 W3.drew := ⟨rfl, rfl, rfl, Nat.le_refl _, fun _ _ => rfl⟩
      have ba : ∀ (V : World) (o : Obj), Below W3.heap.size W3 V → Below W3.heap.size W3 (V.alloc o) := fun V o h => h.alloc h.size o
      go_region_held3 (fun w' => Below W3.heap.size W3 w' ∧ w'.cell? ⟨M, 0, none⟩ = some (.string NK) ∧ w'.cell? ⟨B, 0, none⟩ = some (.string ND) ∧ w'.cell? ⟨B, 1, none⟩ = some (.slice none 0 0)) (first | exact MK.out _ (by assumption) | exact MK.out _ (ba _ _ (by assumption)))
        (first
          | (go_at_call 34; (with_reducible refine (params_nil _).mono ?_); rintro e W4 ⟨rfl, hbx⟩; have hb4 : Below W3.heap.size W3 W4 := below_next hbx (by assumption); clear hbx)
          | (refine step_app_en _ rfl (.tmp 21) (.tmp 36) (by rfl) (base := W.heap.size) (World.ownsRow_nil _ _ _ _) rfl (D := Any) (A := some ⟨W4.heap.size, 0, none⟩) (m := 1) (news := [.string NK, .int .i64 2, .string ND, .string (((NK ++ ByteArray.mk #[32, 111, 102, 32]) ++ ND) ++ ByteArray.mk #[])]) (c := 1) (by exact Reads.new (D := Any) W4 [.string NK, .int .i64 2, .string ND, .string (((NK ++ ByteArray.mk #[32, 111, 102, 32]) ++ ND) ++ ByteArray.mk #[])] 4 1 48 trivial rfl) rfl (by simp [Value.oneCell']) (by omega) (by have := HB3.out.size; have := hb4.size; simp; omega) ?_; intro v5 W5 hown5 hg5 hat5; obtain ⟨A5, c5, rfl, _⟩ := own_form hown5; have hb5 : Below W3.heap.size W3 W5 := below_next (below_grown hg5) (ba _ _ hb4); clear hg5 hat5))
      all_goals
        go_wp2_with (fail)
        exact ⟨.inr ⟨A5, c5, A4, c4, by go_num, rfl, rfl, hown5, HR4.out.1.keep (Same.any hb5), HR4.out.2, below_next hb5 HB3.out⟩, by simp [intOf]⟩
    · obtain ⟨bk, ok, rfl, _, hck⟩ := HD.out.mks.2 (by omega)
      have hc0 : wr.cell? ⟨bk, ok, none⟩ = some (.string NK) := hck 0 _ rfl
      have HC := Lib.hid hc0
      have fB2 := HB.out.1.below HD.out.be HB.out.1.lt
      have JN := Lib.hid (fun (V : World) (hV : Below wr.heap.size wr V) => join_one bk ok c4 NK V ((hV.cell (p := ⟨bk, ok, none⟩) (lt_of_cell HC.out)).trans HC.out) HD.out.c4 (by rw [HN.out.1]; decide))
      clear hck hc0
      go_upto_region 10 with (fail)
      have mk : ∀ w', Below wr.heap.size wr w' → (Below wr.heap.size wr w' ∧ w'.cell? ⟨B, 0, none⟩ = some (.string ND) ∧ w'.cell? ⟨B, 1, none⟩ = some (.slice none 0 0)) := fun w' hb => by
        refine ⟨hb, (hb.cell (p := ⟨B, 0, none⟩) fB2.lt).trans (fB2.cell 0), (hb.cell (p := ⟨B, 1, none⟩) fB2.lt).trans (fB2.cell 1)⟩
      have MK := Lib.hid mk
      clear mk
      have HFB := Lib.hid fB2
      clear fB2
      obtain ⟨hbe0, z0, z1⟩ := MK.out wr (Below.refl _ _)
      have hbd : Below wr.heap.size wr wr.drew := ⟨rfl, rfl, rfl, Nat.le_refl _, fun _ _ => rfl⟩
      have ba : ∀ (V : World) (o : Obj), Below wr.heap.size wr V → Below wr.heap.size wr (V.alloc o) := fun V o h => h.alloc h.size o
      go_region_held3 (fun w' => w'.cell? ⟨B, 0, none⟩ = some (.string ND) ∧ w'.cell? ⟨B, 1, none⟩ = some (.slice none 0 0)) (first | exact (MK.out _ (by assumption)).2 | exact (MK.out _ (ba _ _ (by assumption))).2 | exact ⟨hkp.cell 0, hkp.cell 1⟩)
        (first
          | (go_at_call 34; (with_reducible refine (params_nil _).mono ?_); rintro e W4 ⟨rfl, hbx⟩; have hb4 : Below wr.heap.size wr W4 := below_next hbx (by assumption); clear hbx)
          | (go_at_call 35; (with_reducible refine (JN.out _ (by assumption)).mono ?_); rintro e W6 ⟨rfl, hbx⟩; have hb6 : Below wr.heap.size wr W6 := below_next hbx (by assumption); clear hbx)
          | (refine step_app_en _ rfl (.tmp 39) (.tmp 54) (by rfl) (base := W.heap.size) (v := .slice A3 1 c3) (n := 1) (xs := [.string NK, .int .i64 2, .string ND, .string (((NK ++ ByteArray.mk #[32, 111, 102, 32]) ++ ND) ++ ByteArray.mk #[])]) (by exact (own_below HD.out.own hb6).alloc _) rfl (D := Any) (A := some ⟨W6.heap.size, 0, none⟩) (m := 1) (news := [.string ND, .int .i64 1, .string ⟨#[]⟩, .string ((((ByteArray.mk #[100, 97, 116, 97, 32] ++ ND) ++ ByteArray.mk #[]) ++ ByteArray.mk #[32, 61, 32]) ++ NK)]) (c := 1) (by exact Reads.new (D := Any) W6 [.string ND, .int .i64 1, .string ⟨#[]⟩, .string ((((ByteArray.mk #[100, 97, 116, 97, 32] ++ ND) ++ ByteArray.mk #[]) ++ ByteArray.mk #[32, 61, 32]) ++ NK)] 4 1 48 trivial rfl) rfl (by simp [Value.oneCell']) (by omega) (by have := HD.out.be.size; have := hb6.size; simp; omega) ?_; intro v5 W5 hown5 hg5 hat5; obtain ⟨A5, c5, rfl, hlc, hcm⟩ := own_form hown5; have hkp := ((HFB.out.below hb6 HFB.out.lt).alloc (.cells #[.string ND, .int .i64 1, .string ⟨#[]⟩, .string ((((ByteArray.mk #[100, 97, 116, 97, 32] ++ ND) ++ ByteArray.mk #[]) ++ ByteArray.mk #[32, 61, 32]) ++ NK)] 48)).grown hg5 (fun e => by have := (HD.out.own.lt _ e.symm).1; have := HB.out.1.lt; omega); have FIN := Lib.hid (And.intro hown5 (And.intro hg5 hb6)); clear hg5 hat5 hown5))
      all_goals
        go_wp2_with (fail)
        go_ret
        obtain ⟨hown5, hg5, hb6⟩ := FIN.out
        obtain ⟨hn1, hn2, hrd⟩ := own_reads (by omega) hown5
        have hbe : Below w.heap.size w W5 := by
          have h1 := HB.out.2.trans (HD.out.be.mono HB.out.2.size)
          have h2 := below_next hb6 h1
          exact (h2.alloc h2.size _).grown hg5 (by have := h2.size; simp; omega) (fun k hk => by have := (HD.out.own.lt k hk).1; have := HB.out.2.size; omega)
        refine ⟨A5, c5, rfl, by omega, hcm, ?_, hbe⟩
        have e : ensC [enK, enD] = [.string NK, .int .i64 2, .string ND, .string (((NK ++ ByteArray.mk #[32, 111, 102, 32]) ++ ND) ++ ByteArray.mk #[])] ++ [.string ND, .int .i64 1, .string ⟨#[]⟩, .string ((((ByteArray.mk #[100, 97, 116, 97, 32] ++ ND) ++ ByteArray.mk #[]) ++ ByteArray.mk #[32, 61, 32]) ++ NK)] := by
          rw [HN.out.1, HN.out.2]
          rfl
        rw [e]
        exact hrd.imp (by omega) fun b hb _ => Nat.le_trans HB.out.2.size hb
end Go.Proofs.YtaealapgebbnlaaDoor
