/- Contract of shape.firsts, if first does what it should to a depth; contract of first's closure. -/
import Derived.Test.YtoddjdajjmcliaaShFit
set_option linter.unusedVariables false
namespace Go.Proofs.Ytoddjdajjmcliaa
open Go.RowKit Go.Mem Go.Sh Go.Maps Go.Val
theorem info_Vl : (Try.prog.info? 47).map (fun i => (i.zero, i.size, i.bytes)) = some (some (.agg #[.int .i64 0, .int .i64 0, .string ⟨#[]⟩, .slice none 0 0]), 4, 56) := by kernel_rfl
theorem app_Vl (w : World) {ops : Array Oper} {rest : List Oper} {o : Oper} {a : Act} {Q : Exit → Act → World → Prop} (hgd : o.guard = none) (s x : Operand)
    (ho : o.op = .call { callee := .builtin .append, args := #[s, x], argTypes := #[45, 45] })
    {base : Nat} {v : Value} {n : Nat} {xs : List Value} (hown : w.ownsRow base 47 4 v n xs) (hs : a.eval s = v)
    {D : Nat → Prop} {A : Option Addr} {m : Nat} {news : List Value} (hr : Reads w D 4 A m news) {c : Nat} (hx : a.eval x = .slice A m c) (h1 : ∀ u ∈ news, u.oneCell' = true)
    (h63 : n + m ≤ 1099511627776) (hbase : base ≤ w.heap.size)
    (h : ∀ v' w', w'.ownsRow base 47 4 v' (n + m) (xs ++ news) → w.grownBy w' v.ownBlock → (v'.ownBlock = v.ownBlock ∨ v'.ownBlock = some w.heap.size) → wpList Try.prog ops Q rest (a.put o.dst v') w') : wpList Try.prog ops Q (o :: rest) a w := by
  obtain ⟨i0, hi0, hz0, hz1, hz2⟩ := info_parts info_Vl
  exact wpList_append_any w hgd s x _ ho base _ i0 _ 4 56 Try.underlying45 hi0 hz0 hz1 hz2 rfl (by omega) v n xs hs hown D A m c news hx hr h1 (by simp only [maxLen]; omega) (by omega) hbase h
theorem reads_new2 (w : World) (o : Obj) (cs : List Value) (size n : Nat) (e : TypeId) (D : Nat → Prop) (hD : D (w.heap.size + 1)) (hl : cs.length = n * size) : Reads ((w.alloc o).alloc (.cells cs.toArray e)) D size (some ⟨w.heap.size + 1, 0, none⟩) n cs := by
  have h := Reads.new (w.alloc o) cs size n e D (by simpa using hD) hl
  rwa [show (w.alloc o).heap.size = w.heap.size + 1 by simp] at h
/-- a row of values of the call's own -/
abbrev VsOwn (dv : Nat) (w : World) (N0 : Nat) (A : Option Addr) (c : Nat) (l : List V) : Prop := OwnList 47 4 (VCells dv) w N0 (.slice A l.length c) l
theorem VsOwn.at_ {dv : Nat} {w : World} {N0 : Nat} {A : Option Addr} {c : Nat} {l : List V} (h : VsOwn dv w N0 A c l) (hl : l.length ≤ 4194304) : VsAt dv w (fun b => N0 ≤ b) A l.length c l := by
  obtain ⟨vss, h1, h2, h3, hr, ha⟩ := h.reads (VCells.stable dv) (by omega)
  exact ⟨vss, rfl, hl, h2, h3, hr, ha⟩
/-- a row of the call's own from a lower block on -/
theorem own_less {β : Type} {R : World → (Nat → Prop) → List Value → β → Prop} {size : Nat} {w : World} {B B' : Nat} {e : TypeId} {v : Value} {l : List β} (hS : Stable size R) (h : OwnList e size R w B v l) (hB : B' ≤ B) : OwnList e size R w B' v l := by
  obtain ⟨vss, h1, h2⟩ := h
  refine ⟨vss, ⟨h1.1, ?_⟩, h2.imp fun x y hxy => hS.imp hxy fun b hb _ => ⟨Nat.le_trans hB hb.1, hb.2⟩⟩
  rcases h1.2 with hn | ⟨g, cap, cur, e1, hb, rest⟩
  · exact .inl hn
  · exact .inr ⟨g, cap, cur, e1, Nat.le_trans hB hb, rest⟩
/-- what first hands back -/
def FirstPost (dv : Nat) (w : World) : Option V → Ending → World → Prop
  | some v, e, w' => Below w.heap.size w w' ∧ ∃ A c, e = .returned (.tuple #[.agg #[.int .i64 v.kind, .int .i64 v.num, .string v.text, .slice A v.args.length c], .bool true]) ∧ VCells dv w' (fun b => w.heap.size ≤ b) (vl v A c) v
  | none, e, w' => Below w.heap.size w w' ∧ ∃ (k : Int) (A : Option Addr) (n c : Nat), e = .returned (.tuple #[.agg #[.int .i64 k, .int .i64 0, .string ⟨#[]⟩, .slice A n c], .bool false])
/-- what firsts hands back -/
def FirstsPost (dv : Nat) (w : World) : Option (List V) → Ending → World → Prop
  | some l, e, w' => Below w.heap.size w w' ∧ ∃ A c, e = .returned (.tuple #[.slice A l.length c, .bool true]) ∧ VsOwn dv w' w.heap.size A c l
  | none, e, w' => Below w.heap.size w w' ∧ ∃ A n c, e = .returned (.tuple #[.slice A n c, .bool false])
def FirstTo (k : Nat) : Prop := ∀ (d : Nat) (w : World) (p : Pg) (P : List Dt) (t : Ty) (A : Option Addr) (m c : Nat) (s : Sc) (sv : Option Addr) (r : Option V),
  DtsAt d w Any p.A p.n p.c P → TyAt d w Any t.kind t.name A m c t → ScAt d w sv s → firstF P k s t = some r →
  Calls Try.prog 32 #[.agg p.cells.toArray, .agg #[.int .i64 (t.kind : Nat), str t.name, .slice A m c], .pointer sv, .int .i64 (k : Nat)] w (FirstPost (k + 1) w r)
-- BEGIN
set_option maxRecDepth 100000 in
theorem first1_any (n : Nm) (A : Option Addr) (m c : Nat) (bm : Nat) (x : Nm) (w : World) (h : w.cell? ⟨bm, 0, none⟩ = some (str x)) :
    Calls Try.prog 57 #[.agg #[str n, .slice A m c], .pointer (some ⟨bm, 0, none⟩)] w fun e w' => e = .returned (.bool (decide (n = x))) ∧ Below w.heap.size w w' := by
  have lb := lt_of_cell h
  go_enter Try.func57, Try.ntmps57
  go_wp2_with (fail)
  go_ret
  refine ⟨?_, (Below.refl _ _).alloc (Nat.le_refl _) _⟩
  rw [← beq_nm]
  rfl
set_option maxRecDepth 100000 in
set_option maxHeartbeats 4000000 in
theorem firsts_any (k : Nat) (hk : k ≤ 100) (IH : FirstTo k) (d : Nat) (w : World) (p : Pg) (P : List Dt) (ts : List Ty) (A : Option Addr) (n c : Nat) (s : Sc) (sv : Option Addr) (r : Option (List V))
    (hp : DtsAt d w Any p.A p.n p.c P) (ht : TsAt d w Any A n c ts) (hs : ScAt d w sv s) (hf : manyR (firstF P k s) ts = some r) :
    Calls Try.prog 55 #[.agg p.cells.toArray, .slice A n c, .pointer sv, .int .i64 (k : Nat)] w (FirstsPost (k + 1) w r) := by
  have Hn := Lib.hid (show n = ts.length ∧ n ≤ 1000 by obtain ⟨_, h1, h2, _⟩ := ht; exact ⟨h1, h2⟩)
  have n1 := Hn.out.2
  have HT := Lib.hid (And.intro hp (And.intro ht hs))
  have HF := Lib.hid hf
  clear hp ht hs hf
  unfold Pg.cells pvs
  go_enter Try.func55, Try.ntmps55
  go_wp2_with (fail)
  obtain ⟨W1, hW1⟩ : ∃ W1, W1 = w.alloc (.cells #[str [109], .int .i64 1, .slice none 0 0, .slice p.A p.n p.c, .slice none 0 0, .slice none 0 0, .slice none 0 0, .slice p.B p.m p.e] 29) := ⟨_, rfl⟩
  have hpb : Blk W1 w.heap.size 29 p.cells := by rw [hW1]; exact Blk.new w 29 p.cells
  have hb1 : Below w.heap.size w W1 := by rw [hW1]; exact (Below.refl _ _).alloc (Nat.le_refl _) _
  have hsz1 : W1.heap.size = w.heap.size + 1 := by rw [hW1]; simp
  rw [← hW1]
  obtain ⟨FA, hFA⟩ : ∃ FA, FA = w.heap.size := ⟨_, rfl⟩
  rw [← hFA] at hpb ⊢
  have HP := Lib.hid (And.intro hpb (And.intro hb1 (And.intro hsz1 hFA)))
  clear hW1 hpb hb1 hsz1 hFA
  go_loopw [10, 17] (fun v i wr => ∃ (j : Nat) (l : List V) (A2 : Option Addr) (c2 : Nat), j ≤ n ∧ i = .int .i64 j ∧ v = .slice A2 l.length c2 ∧ Hid (l.length = j ∧ (∃ R2, manyR (firstF P k s) (ts.drop j) = some R2 ∧ r = R2.map (l ++ ·)) ∧ Below W1.heap.size W1 wr ∧ VsOwn (k + 1) wr W1.heap.size A2 c2 l)) (fun _ i _ => n - (intOf i).toNat)
  case atStart => exact ⟨0, [], none, 0, Nat.zero_le _, rfl, rfl, rfl, ⟨r, HF.out, by simp⟩, Below.refl _ _, OwnList.nil _ _ _ _⟩
  case round =>
    obtain ⟨j, l, A2, c2, hj, rfl, rfl, HI⟩ := hrel
    obtain ⟨hlj, ⟨R2, hR2, hrR⟩, hbW, hown⟩ := HI.out
    have hbw : Below w.heap.size w wr := HP.out.2.1.trans (hbW.mono HP.out.2.1.size)
    by_cases hlt : j < n
    · have hjt : j < ts.length := by have := Hn.out; omega
      obtain ⟨q, hq, hq2⟩ := manyR_drop hjt hR2
      obtain ⟨b1, o1, B1, m1, e1, rfl, _, p0, p1, p2, t1⟩ := (HT.out.2.1.keep (Same.any hbw)).cells hlt hjt
      have g := HP.out.1.same (Same.any hbW : Same Any _ _) trivial
      have g0 := g.cell 0
      have g1 := g.cell 1
      have g2 := g.cell 2
      have g3 := g.cell 3
      have g4 := g.cell 4
      have g5 := g.cell 5
      have g6 := g.cell 6
      have g7 := g.cell 7
      have lg := g.lt
      have lb1 := lt_of_cell p0
      simp only [Pg.cells, pvs, List.getElem?_cons_zero, List.getElem?_cons_succ] at g0 g1 g2 g3 g4 g5 g6 g7
      have hb2 : Below wr.heap.size wr (wr.alloc (.cells #[.int .i64 (ts[j].kind : Nat), str ts[j].name, .slice B1 m1 e1] 34)) := (Below.refl _ _).alloc (Nat.le_refl _) _
      have C := Lib.hid (IH d _ p P ts[j] B1 m1 e1 s sv q ((HT.out.1.keep (Same.any hbw)).keep (Same.any hb2)) (t1.keep (Same.any hb2)) ((HT.out.2.2.keep (Same.any hbw)).keep (Same.any hb2)) hq)
      have HQ := Lib.hid hq2
      have HR := Lib.hid hrR
      have HB := Lib.hid (And.intro hbw (And.intro hbW hlj))
      have HO := Lib.hid hown
      simp only [Pg.cells, pvs] at C
      clear hq hq2 t1 hb2 g hlj hR2 hrR hbW hown hbw HI
      generalize ts[j].kind = k1 at p0 C
      generalize ts[j].name = x1 at p1 C
      cases q with
      | none =>
        go_wp2_with (fail)
        refine C.out.mono ?_
        unfold FirstPost
        rintro e w2 ⟨hb2, kk, A3, n3, c3, rfl⟩
        have HB2 := Lib.hid (show Below w.heap.size w w2 from HB.out.1.trans ((((Below.refl _ _).alloc (Nat.le_refl _) _).trans (hb2.mono (by simp))).mono HB.out.1.size))
        clear hb2
        go_wp2_with (fail)
        go_ret2
        have h1 := HR.out
        rcases HQ.out with ⟨_, h2⟩ | ⟨v, _, h2, _⟩
        · rw [h2] at h1
          subst h1
          exact ⟨HB2.out.alloc HB2.out.size _, none, 0, 0, rfl⟩
        · cases h2
      | some v =>
        obtain ⟨R3, hm3, hr3⟩ : ∃ R3, manyR (firstF P k s) (ts.drop (j + 1)) = some R3 ∧ r = R3.map ((l ++ [v]) ++ ·) := by
          rcases HQ.out with ⟨h2, _⟩ | ⟨v', R3, h2, h3, h4⟩
          · cases h2
          · injection h2 with h2
            subst h2
            refine ⟨R3, h3, ?_⟩
            rw [HR.out, h4]
            cases R3 <;> simp
        have HM := Lib.hid (And.intro hm3 hr3)
        clear hm3 hr3 HQ HR
        go_wp2_with (fail)
        refine C.out.mono ?_
        unfold FirstPost
        rintro e w2 ⟨hb2, A3, c3, rfl, hv⟩
        obtain ⟨vk, vn, vt, va⟩ := v
        simp only [V.kind, V.num, V.text, V.args, vl] at hv ⊢
        have hbr : Below wr.heap.size wr w2 := ((Below.refl _ _).alloc (Nat.le_refl _) _).trans (hb2.mono (by simp))
        have hbr3 : Below wr.heap.size wr (w2.alloc (.cells #[.int .i64 vk, .int .i64 vn, .string vt, .slice A3 va.length c3] 47)) := hbr.alloc hbr.size _
        have hown3 := HO.out.keep (VCells.stable (k + 1)) (Same.of_below hbr3 fun b _ hl => hl)
        have hol := HO.out.lt
        have hy : VCells (k + 1) (w2.alloc (.cells #[.int .i64 vk, .int .i64 vn, .string vt, .slice A3 va.length c3] 47)) (fun b => W1.heap.size ≤ b ∧ (Value.slice A2 l.length c2).ownBlock ≠ some b) [.int .i64 vk, .int .i64 vn, .string vt, .slice A3 va.length c3] (.mk vk vn vt va) :=
          ((VCells.stable (k + 1)).keep hv (Same.alloc _ _ _)).imp fun b hb _ => by
            have h1 : wr.heap.size + 1 ≤ b := by simpa using hb
            exact ⟨by have := HB.out.2.1.size; omega, fun e => by have := (hol b e).2; omega⟩
        have HB3 := Lib.hid (And.intro hbr3 (And.intro hy hbr))
        obtain ⟨vss, ho, ha⟩ := hown3
        have HA := Lib.hid ha
        have hs3 : W1.heap.size ≤ w2.heap.size + 1 := by have h1 := hbr.size; have h2 := HB.out.2.1.size; omega
        have hl3 : l.length ≤ 1000 := by have := HB.out.2.2; omega
        clear hb2 hv hbr hbr3 hol hy ha
        go_wp2_with (at_builtin; refine app_Vl _ rfl (.tmp 31) (.tmp 33) rfl (ho.alloc _) rfl (reads_new2 (D := Any) _ _ [.int .i64 vk, .int .i64 vn, .string vt, .slice A3 va.length c3] 4 1 _ trivial rfl) rfl (by simp [Value.oneCell']) (by omega) (by simp; omega) ?_; intro v5 w3 hown5 hg5 hat5)
        have hpush := OwnList.push (VCells.stable (k + 1)) HA.out HB3.out.2.1 hg5 hat5 hown5
        obtain ⟨A5, c5, rfl, _⟩ := own_form hown5
        have hl5 : (l ++ [V.mk vk vn vt va]).length = l.length + 1 := by simp
        have hb3 : Below W1.heap.size W1 w3 := by
          have h1 : Below W1.heap.size W1 (w2.alloc (.cells #[.int .i64 vk, .int .i64 vn, .string vt, .slice A3 va.length c3] 47)) := HB.out.2.1.trans (HB3.out.1.mono HB.out.2.1.size)
          exact (h1.alloc h1.size _).grown hg5 (by have := h1.size; simp at this ⊢; omega) (fun b hb => (ho.lt b hb).1)
        exact ⟨⟨j + 1, l ++ [V.mk vk vn vt va], A5, c5, by omega, by go_num, by rw [hl5], Lib.hid ⟨by rw [hl5, HB.out.2.2], ⟨R3, HM.out⟩, hb3, by unfold VsOwn; rw [hl5]; exact hpush⟩⟩, by simp [intOf]; omega⟩
    · have hend := manyR_end (by have := Hn.out; omega) hR2
      have HE := Lib.hid (show r = some l by rw [hrR, hend]; simp)
      have HO := Lib.hid (And.intro (HP.out.2.1.trans (hbW.mono HP.out.2.1.size)) hown)
      have HW := Lib.hid (show w.heap.size ≤ W1.heap.size from HP.out.2.1.size)
      clear hend hrR hR2 hown hbW hbw hlj HI
      go_wp2_with (fail)
      go_ret2
      have h := HE.out
      subst h
      refine ⟨HO.out.1, A2, c2, rfl, ?_⟩
      exact own_less (VCells.stable (k + 1)) HO.out.2 HW.out
end Go.Proofs.Ytoddjdajjmcliaa
