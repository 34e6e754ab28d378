/- Contract of shape.firsts, if first does what it should to a depth; contract of first's closure. · Contract of shape.first. -/
import Derived.Test.YtoddjdajjmcliaaJShFit
import Derived.Test.YtoddjdajjmcliaaSlice
set_option linter.unusedVariables false
namespace Go.Proofs.Ytoddjdajjmcliaa
open Go.RowKit Go.Mem Go.Sh Go.Maps Go.Val
theorem info_Vl : (Try.prog.info? 47).map (fun i => (i.zero, i.size, i.bytes)) = some (some (.agg #[.int .i64 0, .int .i64 0, .string ⟨#[]⟩, .slice none 0 0]), 4, 56) := by kernel_rfl
theorem app_Vl (w : World) {ops : Array Oper} {rest : List Oper} {o : Oper} {a : Act} {Q : Exit → Act → World → Prop} (hgd : o.guard = none) (s x : Operand)
    (ho : o.op = .call { callee := .builtin .append, args := #[s, x], argTypes := #[45, 45] })
    {base : Nat} {v : Value} {n : Nat} {xs : List Value} (hown : w.ownsRow base 47 4 v n xs) (hs : a.eval s = v)
    {D : Nat → Prop} {A : Option Addr} {m : Nat} {news : List Value} (hr : Reads w D 4 A m news) {c : Nat} (hx : a.eval x = .slice A m c) (h1 : ∀ u ∈ news, u.oneCell' = true)
    (h63 : n + m ≤ 1099511627776) (hbase : base ≤ w.heap.size)
    (h : ∀ v' w', w'.ownsRow base 47 4 v' (n + m) (xs ++ news) → w.grownBy w' v.ownBlock → (v'.ownBlock = v.ownBlock ∨ v'.ownBlock = some w.heap.size) → wpList Try.prog ops Q rest (a.put o.dst v') w') : wpList Try.prog ops Q (o :: rest) a w := by
  obtain ⟨i0, hi0, hz0, hz1, hz2⟩ := info_parts info_Vl
  exact wpList_append_any w hgd s x _ ho base _ i0 _ 4 56 Try.underlying45 hi0 hz0 hz1 hz2 rfl (by omega) v n xs hs hown D A m c news hx hr h1 (by simp only [maxLen]; omega) (by omega) hbase h
theorem reads_new2 (w : World) (o : Obj) (cs : List Value) (size n : Nat) (e : TypeId) (D : Nat → Prop) (hD : D (w.heap.size + 1)) (hl : cs.length = n * size) : Reads ((w.alloc o).alloc (.cells cs.toArray e)) D size (some ⟨w.heap.size + 1, 0, none⟩) n cs := by
  have h := Reads.new (w.alloc o) cs size n e D (by simpa using hD) hl
  rwa [show (w.alloc o).heap.size = w.heap.size + 1 by simp] at h
/-- a row of values of the call's own -/
abbrev VsOwn (dv : Nat) (w : World) (N0 : Nat) (A : Option Addr) (c : Nat) (l : List V) : Prop := OwnList 47 4 (VCells dv) w N0 (.slice A l.length c) l
theorem VsOwn.at_ {dv : Nat} {w : World} {N0 : Nat} {A : Option Addr} {c : Nat} {l : List V} (h : VsOwn dv w N0 A c l) (hl : l.length ≤ 4194304) : VsAt dv w (fun b => N0 ≤ b) A l.length c l := by
  obtain ⟨vss, h1, h2, h3, hr, ha⟩ := h.reads (VCells.stable dv) (by omega)
  exact ⟨vss, rfl, hl, h2, h3, hr, ha⟩
/-- a row of the call's own from a lower block on -/
theorem own_less {β : Type} {R : World → (Nat → Prop) → List Value → β → Prop} {size : Nat} {w : World} {B B' : Nat} {e : TypeId} {v : Value} {l : List β} (hS : Stable size R) (h : OwnList e size R w B v l) (hB : B' ≤ B) : OwnList e size R w B' v l := by
  obtain ⟨vss, h1, h2⟩ := h
  refine ⟨vss, ⟨h1.1, ?_⟩, h2.imp fun x y hxy => hS.imp hxy fun b hb _ => ⟨Nat.le_trans hB hb.1, hb.2⟩⟩
  rcases h1.2 with hn | ⟨g, cap, cur, e1, hb, rest⟩
  · exact .inl hn
  · exact .inr ⟨g, cap, cur, e1, Nat.le_trans hB hb, rest⟩
/-- what first hands back -/
def FirstPost (dv : Nat) (w : World) : Option V → Ending → World → Prop
  | some v, e, w' => Below w.heap.size w w' ∧ ∃ A c, e = .returned (.tuple #[.agg #[.int .i64 v.kind, .int .i64 v.num, .string v.text, .slice A v.args.length c], .bool true]) ∧ VCells dv w' (fun b => w.heap.size ≤ b) (vl v A c) v
  | none, e, w' => Below w.heap.size w w' ∧ ∃ (k : Int) (A : Option Addr) (n c : Nat), e = .returned (.tuple #[.agg #[.int .i64 k, .int .i64 0, .string ⟨#[]⟩, .slice A n c], .bool false])
/-- what firsts hands back -/
def FirstsPost (dv : Nat) (w : World) : Option (List V) → Ending → World → Prop
  | some l, e, w' => Below w.heap.size w w' ∧ ∃ A c, e = .returned (.tuple #[.slice A l.length c, .bool true]) ∧ VsOwn dv w' w.heap.size A c l
  | none, e, w' => Below w.heap.size w w' ∧ ∃ A n c, e = .returned (.tuple #[.slice A n c, .bool false])
def FirstTo (k : Nat) : Prop := ∀ (d : Nat) (w : World) (p : Pg) (P : List Dt) (t : Ty) (A : Option Addr) (m c : Nat) (s : Sc) (sv : Option Addr) (r : Option V),
  DtsAt d w Any p.A p.n p.c P → TyAt d w Any t.kind t.name A m c t → ScAt d w sv s → firstF P k s t = some r →
  Calls Try.prog 32 #[.agg p.cells.toArray, .agg #[.int .i64 (t.kind : Nat), str t.name, .slice A m c], .pointer sv, .int .i64 (k : Nat)] w (FirstPost (k + 1) w r)
-- BEGIN
set_option maxRecDepth 100000 in
theorem first1_any (n : Nm) (A : Option Addr) (m c : Nat) (bm : Nat) (x : Nm) (w : World) (h : w.cell? ⟨bm, 0, none⟩ = some (str x)) :
    Calls Try.prog 57 #[.agg #[str n, .slice A m c], .pointer (some ⟨bm, 0, none⟩)] w fun e w' => e = .returned (.bool (decide (n = x))) ∧ Below w.heap.size w w' := by
  have lb := lt_of_cell h
  go_enter Try.func57, Try.ntmps57
  go_wp2_with (fail)
  go_ret
  refine ⟨?_, (Below.refl _ _).alloc (Nat.le_refl _) _⟩
  rw [← beq_nm]
  rfl
set_option maxRecDepth 100000 in
set_option maxHeartbeats 4000000 in
theorem firsts_any (k : Nat) (hk : k ≤ 100) (IH : FirstTo k) (d : Nat) (w : World) (p : Pg) (P : List Dt) (ts : List Ty) (A : Option Addr) (n c : Nat) (s : Sc) (sv : Option Addr) (r : Option (List V))
    (hp : DtsAt d w Any p.A p.n p.c P) (ht : TsAt d w Any A n c ts) (hs : ScAt d w sv s) (hf : manyR (firstF P k s) ts = some r) :
    Calls Try.prog 55 #[.agg p.cells.toArray, .slice A n c, .pointer sv, .int .i64 (k : Nat)] w (FirstsPost (k + 1) w r) := by
  have Hn := Lib.hid (show n = ts.length ∧ n ≤ 1000 by obtain ⟨_, h1, h2, _⟩ := ht; exact ⟨h1, h2⟩)
  have n1 := Hn.out.2
  have HT := Lib.hid (And.intro hp (And.intro ht hs))
  have HF := Lib.hid hf
  clear hp ht hs hf
  unfold Pg.cells pvs
  go_enter Try.func55, Try.ntmps55
  go_wp2_with (fail)
  obtain ⟨W1, hW1⟩ : ∃ W1, W1 = w.alloc (.cells #[str [109], .int .i64 1, .slice none 0 0, .slice p.A p.n p.c, .slice none 0 0, .slice none 0 0, .slice none 0 0, .slice p.B p.m p.e] 29) := ⟨_, rfl⟩
  have hpb : Blk W1 w.heap.size 29 p.cells := by rw [hW1]; exact Blk.new w 29 p.cells
  have hb1 : Below w.heap.size w W1 := by rw [hW1]; exact (Below.refl _ _).alloc (Nat.le_refl _) _
  have hsz1 : W1.heap.size = w.heap.size + 1 := by rw [hW1]; simp
  rw [← hW1]
  obtain ⟨FA, hFA⟩ : ∃ FA, FA = w.heap.size := ⟨_, rfl⟩
  rw [← hFA] at hpb ⊢
  have HP := Lib.hid (And.intro hpb (And.intro hb1 (And.intro hsz1 hFA)))
  clear hW1 hpb hb1 hsz1 hFA
  go_loopw [10, 17] (fun v i wr => ∃ (j : Nat) (l : List V) (A2 : Option Addr) (c2 : Nat), j ≤ n ∧ i = .int .i64 j ∧ v = .slice A2 l.length c2 ∧ Hid (l.length = j ∧ (∃ R2, manyR (firstF P k s) (ts.drop j) = some R2 ∧ r = R2.map (l ++ ·)) ∧ Below W1.heap.size W1 wr ∧ VsOwn (k + 1) wr W1.heap.size A2 c2 l)) (fun _ i _ => n - (intOf i).toNat)
  case atStart => exact ⟨0, [], none, 0, Nat.zero_le _, rfl, rfl, rfl, ⟨r, HF.out, by simp⟩, Below.refl _ _, OwnList.nil _ _ _ _⟩
  case round =>
    obtain ⟨j, l, A2, c2, hj, rfl, rfl, HI⟩ := hrel
    obtain ⟨hlj, ⟨R2, hR2, hrR⟩, hbW, hown⟩ := HI.out
    have hbw : Below w.heap.size w wr := HP.out.2.1.trans (hbW.mono HP.out.2.1.size)
    by_cases hlt : j < n
    · have hjt : j < ts.length := by have := Hn.out; omega
      obtain ⟨q, hq, hq2⟩ := manyR_drop hjt hR2
      obtain ⟨b1, o1, B1, m1, e1, rfl, _, p0, p1, p2, t1⟩ := (HT.out.2.1.keep (Same.any hbw)).cells hlt hjt
      have g := HP.out.1.same (Same.any hbW : Same Any _ _) trivial
      have g0 := g.cell 0
      have g1 := g.cell 1
      have g2 := g.cell 2
      have g3 := g.cell 3
      have g4 := g.cell 4
      have g5 := g.cell 5
      have g6 := g.cell 6
      have g7 := g.cell 7
      have lg := g.lt
      have lb1 := lt_of_cell p0
      simp only [Pg.cells, pvs, List.getElem?_cons_zero, List.getElem?_cons_succ] at g0 g1 g2 g3 g4 g5 g6 g7
      have hb2 : Below wr.heap.size wr (wr.alloc (.cells #[.int .i64 (ts[j].kind : Nat), str ts[j].name, .slice B1 m1 e1] 34)) := (Below.refl _ _).alloc (Nat.le_refl _) _
      have C := Lib.hid (IH d _ p P ts[j] B1 m1 e1 s sv q ((HT.out.1.keep (Same.any hbw)).keep (Same.any hb2)) (t1.keep (Same.any hb2)) ((HT.out.2.2.keep (Same.any hbw)).keep (Same.any hb2)) hq)
      have HQ := Lib.hid hq2
      have HR := Lib.hid hrR
      have HB := Lib.hid (And.intro hbw (And.intro hbW hlj))
      have HO := Lib.hid hown
      simp only [Pg.cells, pvs] at C
      clear hq hq2 t1 hb2 g hlj hR2 hrR hbW hown hbw HI
      generalize ts[j].kind = k1 at p0 C
      generalize ts[j].name = x1 at p1 C
      cases q with
      | none =>
        go_wp2_with (fail)
        refine C.out.mono ?_
        unfold FirstPost
        rintro e w2 ⟨hb2, kk, A3, n3, c3, rfl⟩
        have HB2 := Lib.hid (show Below w.heap.size w w2 from HB.out.1.trans ((((Below.refl _ _).alloc (Nat.le_refl _) _).trans (hb2.mono (by simp))).mono HB.out.1.size))
        clear hb2
        go_wp2_with (fail)
        go_ret2
        have h1 := HR.out
        rcases HQ.out with ⟨_, h2⟩ | ⟨v, _, h2, _⟩
        · rw [h2] at h1
          subst h1
          exact ⟨HB2.out.alloc HB2.out.size _, none, 0, 0, rfl⟩
        · cases h2
      | some v =>
        obtain ⟨R3, hm3, hr3⟩ : ∃ R3, manyR (firstF P k s) (ts.drop (j + 1)) = some R3 ∧ r = R3.map ((l ++ [v]) ++ ·) := by
          rcases HQ.out with ⟨h2, _⟩ | ⟨v', R3, h2, h3, h4⟩
          · cases h2
          · injection h2 with h2
            subst h2
            refine ⟨R3, h3, ?_⟩
            rw [HR.out, h4]
            cases R3 <;> simp
        have HM := Lib.hid (And.intro hm3 hr3)
        clear hm3 hr3 HQ HR
        go_wp2_with (fail)
        refine C.out.mono ?_
        unfold FirstPost
        rintro e w2 ⟨hb2, A3, c3, rfl, hv⟩
        obtain ⟨vk, vn, vt, va⟩ := v
        simp only [V.kind, V.num, V.text, V.args, vl] at hv ⊢
        have hbr : Below wr.heap.size wr w2 := ((Below.refl _ _).alloc (Nat.le_refl _) _).trans (hb2.mono (by simp))
        have hbr3 : Below wr.heap.size wr (w2.alloc (.cells #[.int .i64 vk, .int .i64 vn, .string vt, .slice A3 va.length c3] 47)) := hbr.alloc hbr.size _
        have hown3 := HO.out.keep (VCells.stable (k + 1)) (Same.of_below hbr3 fun b _ hl => hl)
        have hol := HO.out.lt
        have hy : VCells (k + 1) (w2.alloc (.cells #[.int .i64 vk, .int .i64 vn, .string vt, .slice A3 va.length c3] 47)) (fun b => W1.heap.size ≤ b ∧ (Value.slice A2 l.length c2).ownBlock ≠ some b) [.int .i64 vk, .int .i64 vn, .string vt, .slice A3 va.length c3] (.mk vk vn vt va) :=
          ((VCells.stable (k + 1)).keep hv (Same.alloc _ _ _)).imp fun b hb _ => by
            have h1 : wr.heap.size + 1 ≤ b := by simpa using hb
            exact ⟨by have := HB.out.2.1.size; omega, fun e => by have := (hol b e).2; omega⟩
        have HB3 := Lib.hid (And.intro hbr3 (And.intro hy hbr))
        obtain ⟨vss, ho, ha⟩ := hown3
        have HA := Lib.hid ha
        have hs3 : W1.heap.size ≤ w2.heap.size + 1 := by have h1 := hbr.size; have h2 := HB.out.2.1.size; omega
        have hl3 : l.length ≤ 1000 := by have := HB.out.2.2; omega
        clear hb2 hv hbr hbr3 hol hy ha
        go_wp2_with (at_builtin; refine app_Vl _ rfl (.tmp 31) (.tmp 33) rfl (ho.alloc _) rfl (reads_new2 (D := Any) _ _ [.int .i64 vk, .int .i64 vn, .string vt, .slice A3 va.length c3] 4 1 _ trivial rfl) rfl (by simp [Value.oneCell']) (by omega) (by simp; omega) ?_; intro v5 w3 hown5 hg5 hat5)
        have hpush := OwnList.push (VCells.stable (k + 1)) HA.out HB3.out.2.1 hg5 hat5 hown5
        obtain ⟨A5, c5, rfl, _⟩ := own_form hown5
        have hl5 : (l ++ [V.mk vk vn vt va]).length = l.length + 1 := by simp
        have hb3 : Below W1.heap.size W1 w3 := by
          have h1 : Below W1.heap.size W1 (w2.alloc (.cells #[.int .i64 vk, .int .i64 vn, .string vt, .slice A3 va.length c3] 47)) := HB.out.2.1.trans (HB3.out.1.mono HB.out.2.1.size)
          exact (h1.alloc h1.size _).grown hg5 (by have := h1.size; simp at this ⊢; omega) (fun b hb => (ho.lt b hb).1)
        exact ⟨⟨j + 1, l ++ [V.mk vk vn vt va], A5, c5, by omega, by go_num, by rw [hl5], Lib.hid ⟨by rw [hl5, HB.out.2.2], ⟨R3, HM.out⟩, hb3, by unfold VsOwn; rw [hl5]; exact hpush⟩⟩, by simp [intOf]; omega⟩
    · have hend := manyR_end (by have := Hn.out; omega) hR2
      have HE := Lib.hid (show r = some l by rw [hrR, hend]; simp)
      have HO := Lib.hid (And.intro (HP.out.2.1.trans (hbW.mono HP.out.2.1.size)) hown)
      have HW := Lib.hid (show w.heap.size ≤ W1.heap.size from HP.out.2.1.size)
      clear hend hrR hR2 hown hbW hbw hlj HI
      go_wp2_with (fail)
      go_ret2
      have h := HE.out
      subst h
      refine ⟨HO.out.1, A2, c2, rfl, ?_⟩
      exact own_less (VCells.stable (k + 1)) HO.out.2 HW.out
end Go.Proofs.Ytoddjdajjmcliaa
set_option linter.unusedVariables false
namespace Go.Proofs.Ytoddjdajjmcliaa
open Go.RowKit Go.Mem Go.Sh Go.Maps Go.Val
/-- where first stands behind resolve -/
structure FirAt (d : Nat) (w W : World) (p : Pg) (P : List Dt) (FA FB FC : Nat) (t : Ty) (A : Option Addr) (m c : Nat) (s : Sc) (sv : Option Addr) : Prop where
  be : Below w.heap.size w W
  lo : w.heap.size ≤ FC ∧ FC < W.heap.size
  ba : Blk W FA 29 p.cells
  bb : Blk W FB 34 [.int .i64 (t.kind : Nat), str t.name, .slice A m c]
  bc : Blk W FC 47 [.int .i64 0, .int .i64 0, .string ⟨#[]⟩, .slice none 0 0]
  hp : DtsAt d W Any p.A p.n p.c P
  ht : TyAt d W Any t.kind t.name A m c t
  hs : ScAt d W sv s
theorem FirAt.below {d : Nat} {w W W' : World} {p : Pg} {P : List Dt} {FA FB FC : Nat} {t : Ty} {A : Option Addr} {m c : Nat} {s : Sc} {sv : Option Addr} (h : FirAt d w W p P FA FB FC t A m c s sv) (hb : Below W.heap.size W W') : FirAt d w W' p P FA FB FC t A m c s sv :=
  have k : Same Any W W' := Same.any hb
  ⟨h.be.trans (hb.mono h.be.size), ⟨h.lo.1, Nat.lt_of_lt_of_le h.lo.2 hb.size⟩, h.ba.same k trivial, h.bb.same k trivial, h.bc.same k trivial, h.hp.keep k, h.ht.keep k, h.hs.keep k⟩
/-- the result's four stores -/
theorem fir_end {w W : World} {FC : Nat} {cs0 : List Value} (hl : cs0.length = 4) (hbe : Below w.heap.size w W) (hlo : w.heap.size ≤ FC) (hc : Blk W FC 47 cs0) (a b c e : Value) :
    Blk ((((W.setCell ⟨FC, 0, none⟩ a).setCell ⟨FC, 1, none⟩ b).setCell ⟨FC, 2, none⟩ c).setCell ⟨FC, 3, none⟩ e) FC 47 [a, b, c, e] ∧ Below w.heap.size w ((((W.setCell ⟨FC, 0, none⟩ a).setCell ⟨FC, 1, none⟩ b).setCell ⟨FC, 2, none⟩ c).setCell ⟨FC, 3, none⟩ e) ∧
    ∀ D : Nat → Prop, (∀ b, D b → b ≠ FC) → Same D W ((((W.setCell ⟨FC, 0, none⟩ a).setCell ⟨FC, 1, none⟩ b).setCell ⟨FC, 2, none⟩ c).setCell ⟨FC, 3, none⟩ e) := by
  refine ⟨?_, (((hbe.setCell (p := ⟨FC, 0, none⟩) hlo a).setCell (p := ⟨FC, 1, none⟩) hlo b).setCell (p := ⟨FC, 2, none⟩) hlo c).setCell (p := ⟨FC, 3, none⟩) hlo e, ?_⟩
  · have h := (((hc.put 0 a).put 1 b).put 2 c).put 3 e
    match cs0, hl with
    | [x0, x1, x2, x3], _ => exact h
  · intro D hD b hb hl
    have hne := hD b hb
    exact (Below.heap_setCell _ ⟨FC, 3, none⟩ _ b hne).trans ((Below.heap_setCell _ ⟨FC, 2, none⟩ _ b hne).trans ((Below.heap_setCell _ ⟨FC, 1, none⟩ _ b hne).trans (Below.heap_setCell _ ⟨FC, 0, none⟩ _ b hne)))
theorem firstF_of {P : List Dt} {d : Nat} {s : Sc} {t : Ty} {k : Nat} {n : Nm} {l : List Ty} {s2 : Sc} (h : resolveF s t = (.mk k n l, s2)) : firstF P d s t =
    if 0 < basicF k then some (some (.mk (basicF k : Nat) 0 ⟨#[]⟩ [])) else match d with
    | 0 => some none
    | d + 1 => if k = 9 then (if l.length = 1 then (manyR (firstF P d s2) l).map (fun o => o.map fun l => .mk 8 0 ⟨#[]⟩ l) else some none)
      else if k = 6 then match dataOf P n with
        | none => none
        | some D => if D.params.length = l.length then firstMk (firstF P d (.mk D.params l s2)) [] D.makes else none
      else some none := by
  conv => lhs; unfold firstF
  rw [h]
  rfl
theorem manyR_len {α β : Type} {f : α → Option (Option β)} : ∀ {ts : List α} {R : Option (List β)} {l : List β}, manyR f ts = some R → R = some l → l.length = ts.length
  | [], R, l, h, e => by
    subst e
    unfold manyR at h
    injection h with h
    injection h with h
    subst h
    rfl
  | t :: ts, R, l, h, e => by
    subst e
    obtain ⟨q, hq, h2⟩ := manyR_drop (ts := t :: ts) (j := 0) (by simp) h
    rcases h2 with ⟨_, h2⟩ | ⟨v, R2, _, h3, h4⟩
    · cases h2
    · cases R2 with
      | none => cases h4
      | some l2 =>
        injection h4 with h4
        subst h4
        have := manyR_len h3 rfl
        simpa using this
theorem FirstsPost.form {dv : Nat} {w : World} {r : Option (List V)} {e : Ending} {w' : World} (h : FirstsPost dv w r e w') : ∃ A n c ok, e = .returned (.tuple #[.slice A n c, .bool ok]) := by
  cases r with
  | none => obtain ⟨_, A, n, c, e⟩ := h; exact ⟨A, n, c, false, e⟩
  | some l => obtain ⟨_, A, c, e, _⟩ := h; exact ⟨A, _, c, true, e⟩
theorem FirstsPost.below {dv : Nat} {w : World} {r : Option (List V)} {e : Ending} {w' : World} (h : FirstsPost dv w r e w') : Below w.heap.size w w' := by
  cases r with
  | none => exact h.1
  | some l => exact h.1
theorem FirstsPost.bad {dv : Nat} {w : World} {r : Option (List V)} {A : Option Addr} {n c : Nat} {w' : World} (h : FirstsPost dv w r (.returned (.tuple #[.slice A n c, .bool false])) w') : r = none := by
  cases r with
  | none => rfl
  | some l => obtain ⟨_, A, c, e, _⟩ := h; injection e with e; injection e with e; simp at e
theorem FirstsPost.good {dv : Nat} {w : World} {r : Option (List V)} {A : Option Addr} {n c : Nat} {w' : World} (h : FirstsPost dv w r (.returned (.tuple #[.slice A n c, .bool true])) w') : ∃ l, r = some l ∧ n = l.length ∧ VsOwn dv w' w.heap.size A c l := by
  cases r with
  | none => obtain ⟨_, A, n, c, e⟩ := h; injection e with e; injection e with e; simp at e
  | some l =>
    obtain ⟨_, A', c', e, h⟩ := h
    injection e with e
    injection e with e
    simp only [Array.mk.injEq, List.cons.injEq, Value.slice.injEq, and_true] at e
    obtain ⟨rfl, rfl, rfl⟩ := e
    exact ⟨l, rfl, rfl, h⟩
theorem txt_size (n : Nm) : (txt n).size = n.length := by simp [txt, ByteArray.size]
theorem take_flat {size : Nat} : ∀ {vss : List (List Value)}, (∀ c ∈ vss, c.length = size) → ∀ j, vss.flatten.take (j * size) = (vss.take j).flatten
  | [], _, j => by simp
  | v :: vss, h, 0 => by simp
  | v :: vss, h, j + 1 => by
    have hv : v.length = size := h v (by simp)
    have ih := take_flat (fun c hc => h c (by simp [hc])) j (vss := vss)
    rw [List.take_succ_cons, List.flatten_cons, List.flatten_cons, ← ih, List.take_append, Nat.succ_mul, hv, List.take_of_length_le (by omega)]
    congr 2
    omega
theorem MksAt.take {d : Nat} {w : World} {D : Nat → Prop} {A : Option Addr} {n c : Nat} {l : List Mk} (h : MksAt d w D A n c l) {j : Nat} (hj : j ≤ n) : MksAt d w D A j c (l.take j) := by
  obtain ⟨vss, h1, h2, h3, h4, hr, ha⟩ := h
  refine ⟨vss.take j, by rw [List.length_take]; omega, by omega, by omega, h4, ?_, ha.take j⟩
  have := hr.first hj
  rwa [take_flat (All2.lens (MkCells.stable d) ha) j] at this
theorem mks_slice {d : Nat} {w : World} {D : Nat → Prop} {A : Option Addr} {n c : Nat} {l : List Mk} (h : MksAt d w D A n c l) {j : Nat} (hj : j ≤ n) : ∀ W : World, (Instr.slice 81 (.slice A n c) none (some (.int .i64 (j : Int))) none).run Try.prog W = .ok (.slice A j c) W := by
  obtain ⟨vss, h1, h2, h3, h4, hr, ha⟩ := h
  exact (slice_h (c := c) 81 80 Try.underlying81 (by kernel_rfl) hr h3 j hj (j : Int) rfl).1
theorem firstMk_skip {f : Ty → Option (Option V)} {seen : List Nm} {m : Mk} {l : List Mk} (h : m.name ∈ seen ∨ 6 < m.args.length) : firstMk f seen (m :: l) = firstMk f (seen ++ [m.name]) l := by
  conv => lhs; unfold firstMk
  rw [if_pos h]
theorem firstMk_go {f : Ty → Option (Option V)} {seen : List Nm} {m : Mk} {l : List Mk} {r : Option V} (h : ¬ (m.name ∈ seen ∨ 6 < m.args.length)) (hr : firstMk f seen (m :: l) = some r) : ∃ Q, manyR f m.args = some Q ∧ ((Q = none ∧ firstMk f (seen ++ [m.name]) l = some r) ∨ ∃ vs, Q = some vs ∧ r = some (.mk 5 0 (txt m.name) vs)) := by
  unfold firstMk at hr
  rw [if_neg h] at hr
  cases hm : manyR f m.args with
  | none => rw [hm] at hr; cases hr
  | some Q =>
    rw [hm] at hr
    cases Q with
    | none => exact ⟨none, rfl, .inl ⟨rfl, hr⟩⟩
    | some vs => exact ⟨some vs, rfl, .inr ⟨vs, rfl, by injection hr with hr; exact hr.symm⟩⟩
theorem take_names {l : List Mk} {j : Nat} (h : j < l.length) {y : Mk} (hy : l[j] = y) : (l.take (j + 1)).map (·.name) = (l.take j).map (·.name) ++ [y.name] := by
  rw [← hy, List.take_succ_eq_append_getElem h, List.map_append]
  rfl
theorem any_names (l : List Mk) (n : Nm) : (l.any fun m => decide (m.name = n)) = decide (n ∈ l.map (·.name)) := by
  rw [Bool.eq_iff_iff, List.any_eq_true, decide_eq_true_eq, List.mem_map]
  constructor
  · rintro ⟨m, h1, h2⟩
    exact ⟨m, h1, of_decide_eq_true h2⟩
  · rintro ⟨m, h1, h2⟩
    exact ⟨m, h1, decide_eq_true h2⟩
-- BEGIN
set_option maxRecDepth 100000 in
set_option maxHeartbeats 8000000 in
theorem first_at (k : Nat) (hk : k ≤ 100) (IH : ∀ j, j + 1 = k → FirstTo j) : FirstTo k := by
  intro d w p P t A m c s sv r hp ht hs hf
  have HT := Lib.hid (And.intro hp (And.intro ht hs))
  have R0 := fun W3 hb => resolve_any d w W3 t A m c s sv hb ht hs
  have hk9 := resolve_le s t ht hs
  obtain ⟨rt, hrt⟩ : ∃ rt, resolveF s t = rt := ⟨_, rfl⟩
  obtain ⟨⟨k2, n2, l2⟩, s2⟩ := rt
  rw [firstF_of hrt] at hf
  rw [hrt] at R0 hk9
  simp only [Ty.kind] at hk9
  have HF := Lib.hid hf
  have HR0 := Lib.hid R0
  have HK9 := Lib.hid hk9
  generalize t.kind = kt at HR0 ⊢
  generalize t.name = nt at HR0 ⊢
  clear hp ht hs hf R0 hk9 hrt
  obtain ⟨FA, hFA⟩ : ∃ FA, FA = w.heap.size := ⟨_, rfl⟩
  obtain ⟨FB, hFB⟩ : ∃ FB, FB = w.heap.size + 1 := ⟨_, rfl⟩
  obtain ⟨FC, hFC⟩ : ∃ FC, FC = w.heap.size + 1 + 1 := ⟨_, rfl⟩
  have HFs := Lib.hid (show FA = w.heap.size ∧ FB = w.heap.size + 1 ∧ FC = w.heap.size + 1 + 1 from ⟨hFA, hFB, hFC⟩)
  clear hFA hFB hFC
  unfold Pg.cells pvs
  go_enter Try.func32, Try.ntmps32
  go_upto_region 1 with (fail)
  obtain ⟨W3, hW3⟩ : ∃ W3, W3 = ((w.alloc (.cells #[str [109], .int .i64 1, .slice none 0 0, .slice p.A p.n p.c, .slice none 0 0, .slice none 0 0, .slice none 0 0, .slice p.B p.m p.e] 29)).alloc (.cells #[.int .i64 (kt : Nat), str nt, .slice A m c] 34)).alloc (.cells #[.int .i64 0, .int .i64 0, .string ⟨#[]⟩, .slice none 0 0] 47) := ⟨_, rfl⟩
  have hb := blks3 w 29 34 47 p.cells [.int .i64 (kt : Nat), str nt, .slice A m c] [.int .i64 0, .int .i64 0, .string ⟨#[]⟩, .slice none 0 0] W3 hW3
  rw [← hW3]
  clear hW3
  rw [← HFs.out.2.2, ← HFs.out.2.1, ← HFs.out.1] at hb
  rw [← HFs.out.2.2, ← HFs.out.2.1, ← HFs.out.1]
  have HB := Lib.hid hb
  have b0 := hb.2.1.cell 0
  have b1 := hb.2.1.cell 1
  have b2 := hb.2.1.cell 2
  have lB := hb.2.1.lt
  simp only [List.getElem?_cons_zero, List.getElem?_cons_succ] at b0 b1 b2
  have R := Lib.hid (HR0.out W3 (by have h := hb.2.2.2.1; rw [HFs.out.1] at h; exact h))
  clear hb HR0
  go_upto_region 2 with (go_at_call 47; refine R.out.mono ?_; unfold ResPost; rintro e w4 ⟨hb4, A2, m2, c2, sv2, he, ht2, hs2⟩; simp only [Ty.kind, Ty.name] at he ht2; subst he; have HK := Lib.hid (And.intro hb4 (And.intro ht2 hs2)); have gB := HB.out.2.1.below hb4 HB.out.2.1.lt; have y0 := gB.cell 0; have y1 := gB.cell 1; have y2 := gB.cell 2; have z0 := gB.frozen 0; have z1 := gB.frozen 1; have z2 := gB.frozen 2; have lY := gB.lt; simp only [List.getElem?_cons_zero, List.getElem?_cons_succ] at y0 y1 y2; clear b0 b1 b2 lB hb4 ht2 hs2 gB)
  clear y0 y1 y2 z0 z1 z2 lY R
  obtain ⟨W5, hW5⟩ : ∃ W5, W5 = ((w4.setCell ⟨FB, 0, none⟩ (.int .i64 (k2 : Nat))).setCell ⟨FB, 1, none⟩ (str n2)).setCell ⟨FB, 2, none⟩ (.slice A2 m2 c2) := ⟨_, rfl⟩
  have hat : FirAt d w W5 p P FA FB FC (.mk k2 n2 l2) A2 m2 c2 s2 sv2 := by
    obtain ⟨g1, g2, g3, g4, g5⟩ := HB.out
    obtain ⟨hb4, ht2, hs2⟩ := HK.out
    obtain ⟨f1, f2, f3⟩ := HFs.out
    have hlt : w.heap.size ≤ FB := by omega
    have hb0 : Below w.heap.size w w4 := by rw [f1] at g4; exact g4.trans (hb4.mono (by omega))
    have hbe : Below w.heap.size w W5 := by rw [hW5]; exact ((hb0.setCell (p := ⟨FB, 0, none⟩) hlt _).setCell (p := ⟨FB, 1, none⟩) hlt _).setCell (p := ⟨FB, 2, none⟩) hlt _
    have k : Same Any w W5 := Same.any hbe
    obtain ⟨hp, _, hs⟩ := HT.out
    have gC : Blk W5 FC 47 [.int .i64 0, .int .i64 0, .string ⟨#[]⟩, .slice none 0 0] := by
      rw [hW5]
      exact (((g3.below hb4 g3.lt).far (p := ⟨FB, 0, none⟩) (by show FC ≠ FB; omega) _).far (p := ⟨FB, 1, none⟩) (by show FC ≠ FB; omega) _).far (p := ⟨FB, 2, none⟩) (by show FC ≠ FB; omega) _
    refine ⟨hbe, ⟨by omega, gC.lt⟩, ?_, ?_, gC, hp.keep k, ht2.keep k, hs2.keep k⟩
    · rw [hW5]
      exact (((g1.below hb4 g1.lt).far (p := ⟨FB, 0, none⟩) (by show FA ≠ FB; omega) _).far (p := ⟨FB, 1, none⟩) (by show FA ≠ FB; omega) _).far (p := ⟨FB, 2, none⟩) (by show FA ≠ FB; omega) _
    · rw [hW5]
      exact (((g2.below hb4 g2.lt).put 0 _).put 1 _).put 2 _
  rw [← hW5]
  have HA := Lib.hid hat
  have c0 := hat.bc.cell 0
  have c1 := hat.bc.cell 1
  have c2' := hat.bc.cell 2
  have c3' := hat.bc.cell 3
  have z0 := hat.bc.frozen 0
  have z1 := hat.bc.frozen 1
  have z2 := hat.bc.frozen 2
  have z3 := hat.bc.frozen 3
  have b0 := hat.bb.cell 0
  have b1 := hat.bb.cell 1
  have b2 := hat.bb.cell 2
  have lA := hat.ba.lt
  have lB := hat.bb.lt
  have lC := hat.bc.lt
  simp only [Ty.kind, Ty.name, List.getElem?_cons_zero, List.getElem?_cons_succ] at c0 c1 c2' c3' b0 b1 b2
  clear hW5 hat HK HB
  have hk2 := HK9.out
  have KB := Lib.hid (fun W => basic_any k2 W hk2)
  by_cases hsm : 1 ≤ k2 ∧ k2 ≤ 4
  · have h4 : k2 = 1 ∨ k2 = 2 ∨ k2 = 3 ∨ k2 = 4 := by omega
    clear hsm hk2
    rcases h4 with rfl | rfl | rfl | rfl
    · have KB : ∀ W, Calls Try.prog 51 #[.int .i64 ((1 : Nat) : Int)] W fun e w' => e = .returned (.int .i64 2) ∧ W = w' := KB.out
      have KB := Lib.hid KB
      have hE := Lib.hid (fir_end rfl HA.out.be HA.out.lo.1 HA.out.bc (.int .i64 2) (.int .i64 0) (.string ⟨#[]⟩) (.slice none 0 0))
      go_wp2_with (go_at_call 51; refine (KB.out _).mono ?_; rintro e w' ⟨rfl, rfl⟩)
      refine ret_blk_tmp rfl rfl hE.out.1 Try.underlying47 (by kernel_rfl) rfl ?_
      have hr : r = some (.mk 2 0 ⟨#[]⟩ []) := by
        have h := HF.out
        rw [if_pos (by decide)] at h
        exact (Option.some.inj h).symm
      subst hr
      exact ⟨hE.out.2.1, none, 0, rfl, vcells_of (d := k) (k := 2) (n := 0) VsAt.nil ⟨by omega, by omega⟩ ⟨by omega, by omega⟩ (by decide)⟩
    · have KB : ∀ W, Calls Try.prog 51 #[.int .i64 ((2 : Nat) : Int)] W fun e w' => e = .returned (.int .i64 3) ∧ W = w' := KB.out
      have KB := Lib.hid KB
      have hE := Lib.hid (fir_end rfl HA.out.be HA.out.lo.1 HA.out.bc (.int .i64 3) (.int .i64 0) (.string ⟨#[]⟩) (.slice none 0 0))
      go_wp2_with (go_at_call 51; refine (KB.out _).mono ?_; rintro e w' ⟨rfl, rfl⟩)
      refine ret_blk_tmp rfl rfl hE.out.1 Try.underlying47 (by kernel_rfl) rfl ?_
      have hr : r = some (.mk 3 0 ⟨#[]⟩ []) := by
        have h := HF.out
        rw [if_pos (by decide)] at h
        exact (Option.some.inj h).symm
      subst hr
      exact ⟨hE.out.2.1, none, 0, rfl, vcells_of (d := k) (k := 3) (n := 0) VsAt.nil ⟨by omega, by omega⟩ ⟨by omega, by omega⟩ (by decide)⟩
    · have KB : ∀ W, Calls Try.prog 51 #[.int .i64 ((3 : Nat) : Int)] W fun e w' => e = .returned (.int .i64 4) ∧ W = w' := KB.out
      have KB := Lib.hid KB
      have hE := Lib.hid (fir_end rfl HA.out.be HA.out.lo.1 HA.out.bc (.int .i64 4) (.int .i64 0) (.string ⟨#[]⟩) (.slice none 0 0))
      go_wp2_with (go_at_call 51; refine (KB.out _).mono ?_; rintro e w' ⟨rfl, rfl⟩)
      refine ret_blk_tmp rfl rfl hE.out.1 Try.underlying47 (by kernel_rfl) rfl ?_
      have hr : r = some (.mk 4 0 ⟨#[]⟩ []) := by
        have h := HF.out
        rw [if_pos (by decide)] at h
        exact (Option.some.inj h).symm
      subst hr
      exact ⟨hE.out.2.1, none, 0, rfl, vcells_of (d := k) (k := 4) (n := 0) VsAt.nil ⟨by omega, by omega⟩ ⟨by omega, by omega⟩ (by decide)⟩
    · have KB : ∀ W, Calls Try.prog 51 #[.int .i64 ((4 : Nat) : Int)] W fun e w' => e = .returned (.int .i64 1) ∧ W = w' := KB.out
      have KB := Lib.hid KB
      have hE := Lib.hid (fir_end rfl HA.out.be HA.out.lo.1 HA.out.bc (.int .i64 1) (.int .i64 0) (.string ⟨#[]⟩) (.slice none 0 0))
      go_wp2_with (go_at_call 51; refine (KB.out _).mono ?_; rintro e w' ⟨rfl, rfl⟩)
      refine ret_blk_tmp rfl rfl hE.out.1 Try.underlying47 (by kernel_rfl) rfl ?_
      have hr : r = some (.mk 1 0 ⟨#[]⟩ []) := by
        have h := HF.out
        rw [if_pos (by decide)] at h
        exact (Option.some.inj h).symm
      subst hr
      exact ⟨hE.out.2.1, none, 0, rfl, vcells_of (d := k) (k := 1) (n := 0) VsAt.nil ⟨by omega, by omega⟩ ⟨by omega, by omega⟩ (by decide)⟩
  · have hb0 : basicF k2 = 0 := by
      unfold basicF
      rw [if_neg (by omega), if_neg (by omega), if_neg (by omega), if_neg (by omega)]
    have KB := Lib.hid (show ∀ W, Calls Try.prog 51 #[.int .i64 (k2 : Nat)] W fun e w' => e = .returned (.int .i64 0) ∧ W = w' by have h := KB.out; rw [hb0] at h; exact h)
    have hf := HF.out
    rw [if_neg (by omega)] at hf
    clear HF
    have hE := Lib.hid (fir_end rfl HA.out.be HA.out.lo.1 HA.out.bc (.int .i64 0) (.int .i64 0) (.string ⟨#[]⟩) (.slice none 0 0))
    cases k with
    | zero =>
      simp only at hf
      have HR := Lib.hid (Option.some.inj hf)
      clear hf hsm hb0
      go_wp2_with (go_at_call 51; refine (KB.out _).mono ?_; rintro e w' ⟨rfl, rfl⟩)
      refine ret_blk_tmp rfl rfl hE.out.1 Try.underlying47 (by kernel_rfl) rfl ?_
      rw [← HR.out]
      exact ⟨hE.out.2.1, 0, none, 0, 0, rfl⟩
    | succ k =>
      simp only at hf
      have IHk := Lib.hid (IH k rfl)
      have HF := Lib.hid hf
      have k1 : ¬ ((k : Int) + 1 < 1) := by omega
      have k2' : decide ((k : Int) + 1 < 1) = false := decide_eq_false (by omega)
      clear hf hb0
      by_cases h9 : k2 = 9
      · subst h9
        have hf := HF.out
        rw [if_pos rfl] at hf
        have hm2 : m2 = l2.length := by have h := HA.out.ht.args; obtain ⟨_, q, _⟩ := h; exact q
        by_cases h1 : m2 = 1
        · rw [if_pos (by omega)] at hf
          obtain ⟨R, hR, hr⟩ := Option.map_eq_some_iff.1 hf
          have C := Lib.hid (firsts_any k (by omega) IHk.out d W5 p P l2 A2 m2 c2 s2 sv2 R HA.out.hp HA.out.ht.args HA.out.hs hR)
          have HR := Lib.hid hr
          have HRR := Lib.hid hR
          have a0 := HA.out.ba.cell 0
          have a1 := HA.out.ba.cell 1
          have a2 := HA.out.ba.cell 2
          have a3 := HA.out.ba.cell 3
          have a4 := HA.out.ba.cell 4
          have a5 := HA.out.ba.cell 5
          have a6 := HA.out.ba.cell 6
          have a7 := HA.out.ba.cell 7
          simp only [Pg.cells, pvs, List.getElem?_cons_zero, List.getElem?_cons_succ] at a0 a1 a2 a3 a4 a5 a6 a7
          simp only [Pg.cells, pvs] at C
          subst h1
          have HM2 := Lib.hid hm2
          clear hf hR hr HF hsm hm2
          go_upto_region 11 with (first | (go_at_call 51; refine (KB.out _).mono ?_; rintro e w' ⟨rfl, rfl⟩) | (go_at_call 55; refine C.out.mono ?_; intro e w6 h6; have H6 := Lib.hid h6; clear h6; obtain ⟨A6, n6, c6, ok6, rfl⟩ : ∃ A6 n6 c6 ok6, e = .returned (.tuple #[.slice A6 n6 c6, .bool ok6]) := FirstsPost.form H6.out))
          have HA6 := Lib.hid (HA.out.below (FirstsPost.below H6.out))
          clear c0 c1 c2' c3' z0 z1 z2 z3 b0 b1 b2 lA lB lC a0 a1 a2 a3 a4 a5 a6 a7 C
          have c0 := HA6.out.bc.cell 0
          have c1 := HA6.out.bc.cell 1
          have c2' := HA6.out.bc.cell 2
          have c3' := HA6.out.bc.cell 3
          have z0 := HA6.out.bc.frozen 0
          have z1 := HA6.out.bc.frozen 1
          have z2 := HA6.out.bc.frozen 2
          have z3 := HA6.out.bc.frozen 3
          have lC := HA6.out.bc.lt
          simp only [List.getElem?_cons_zero, List.getElem?_cons_succ] at c0 c1 c2' c3'
          have hE6 := Lib.hid (fir_end rfl HA6.out.be HA6.out.lo.1 HA6.out.bc (.int .i64 8) (.int .i64 0) (.string ⟨#[]⟩) (.slice A6 n6 c6))
          go_wp2_with (fail)
          refine ret_blk_tmp rfl rfl hE6.out.1 Try.underlying47 (by kernel_rfl) rfl ?_
          have h := HR.out
          cases ok6 with
          | false =>
            rw [FirstsPost.bad H6.out] at h
            subst h
            exact ⟨hE6.out.2.1, 8, A6, n6, c6, rfl⟩
          | true =>
            obtain ⟨l, hl, hn6, ho⟩ := FirstsPost.good H6.out
            rw [hl] at h
            subst h hn6
            refine ⟨hE6.out.2.1, A6, c6, rfl, ?_⟩
            have hle : l.length ≤ 4194304 := by
              have := manyR_len HRR.out hl
              have := HM2.out
              omega
            have hv := VsOwn.at_ ho hle
            exact vcells_of (k := 8) (n := 0) ((hv.keep (hE6.out.2.2 _ fun b hb e => by have := HA.out.lo.2; have hb' : W5.heap.size ≤ b := hb; omega)).imp fun b hb _ => by have h1 := HA.out.be.size; have hb' : W5.heap.size ≤ b := hb; show w.heap.size ≤ b; omega) ⟨by omega, by omega⟩ ⟨by omega, by omega⟩ (by show (0 : Nat) ≤ _; omega)
        · have q1 : ((m2 : Int) == 1) = false := by simp; omega
          rw [if_neg (by omega)] at hf
          have HR := Lib.hid (Option.some.inj hf)
          clear hf HF hsm hm2 h1
          go_wp2_with (go_at_call 51; refine (KB.out _).mono ?_; rintro e w' ⟨rfl, rfl⟩)
          refine ret_blk_tmp rfl rfl hE.out.1 Try.underlying47 (by kernel_rfl) rfl ?_
          rw [← HR.out]
          exact ⟨hE.out.2.1, 0, none, 0, 0, rfl⟩
      · by_cases h6 : k2 = 6
        · subst h6
          have hf := HF.out
          rw [if_neg (by omega), if_pos rfl] at hf
          cases hR : dataOf P n2 with
          | none => rw [hR] at hf; cases hf
          | some R =>
            rw [hR] at hf
            simp only at hf
            by_cases hl : R.params.length = l2.length
            · rw [if_pos hl] at hf
              have UN := Lib.hid (under_any d W5 p P (.mk 6 n2 l2) R A2 m2 c2 s2 sv2 HA.out.hp HA.out.ht HA.out.hs hR hl)
              have HF2 := Lib.hid hf
              have a0 := HA.out.ba.cell 0
              have a1 := HA.out.ba.cell 1
              have a2 := HA.out.ba.cell 2
              have a3 := HA.out.ba.cell 3
              have a4 := HA.out.ba.cell 4
              have a5 := HA.out.ba.cell 5
              have a6 := HA.out.ba.cell 6
              have a7 := HA.out.ba.cell 7
              simp only [Pg.cells, pvs, List.getElem?_cons_zero, List.getElem?_cons_succ] at a0 a1 a2 a3 a4 a5 a6 a7
              simp only [Pg.cells, pvs, Ty.kind, Ty.name] at UN
              clear hf hR hl hsm h9 HF hE c0 c1 c2' c3' z0 z1 z2 z3
              go_upto_region 14 with (first | (go_at_call 51; refine (KB.out _).mono ?_; rintro e w' ⟨rfl, rfl⟩) | (go_at_call 52; refine UN.out.mono ?_; unfold UnderPost; rintro e w6 ⟨hb6, X, cx, A6, n6, c6, sv6, rfl, hm6, hs6⟩; have HU := Lib.hid (And.intro hb6 (And.intro hm6 hs6)); clear a0 a1 a2 a3 a4 a5 a6 a7 b0 b1 b2 lA lB lC hb6 hm6 hs6))
              obtain ⟨w7, hw7⟩ : ∃ w7, w7 = w6.alloc (.cells #[str R.name, .slice X R.params.length cx, .slice A6 n6 c6] 83) := ⟨_, rfl⟩
              have hd : Blk w7 w6.heap.size 83 [str R.name, .slice X R.params.length cx, .slice A6 n6 c6] := by rw [hw7]; exact Blk.new _ _ _
              have h67 : Below w6.heap.size w6 w7 := by rw [hw7]; exact (Below.refl _ _).alloc (Nat.le_refl _) _
              rw [← hw7]
              obtain ⟨BD, hBD⟩ : ∃ BD, BD = w6.heap.size := ⟨_, rfl⟩
              rw [← hBD] at hd ⊢
              have HA7 := Lib.hid ((HA.out.below HU.out.1).below h67)
              have HU7 := Lib.hid (And.intro (HU.out.2.1.keep (Same.any h67)) (And.intro (HU.out.2.2.keep (Same.any h67)) hd))
              clear hd h67 hw7 hBD
              have d2 := HU7.out.2.2.cell 2
              have lD := HU7.out.2.2.lt
              simp only [List.getElem?_cons_zero, List.getElem?_cons_succ] at d2
              have HM := Lib.hid (show n6 = R.makes.length ∧ n6 ≤ 1000 ∧ n6 ≤ c6 ∧ c6 ≤ maxLen by have h := HU7.out.1; obtain ⟨_, q1, q2, q3, q4, _⟩ := h; exact ⟨q1, q2, q3, q4⟩)
              have n61 := HM.out.2.1
              go_wp2_with (fail)
              clear UN d2 lD
              have HFf : Hid (firstMk (firstF P k (.mk R.params l2 s2)) [] R.makes = some r) := HF2
              generalize hff : firstF P k (.mk R.params l2 s2) = ff at HFf
              have HFF := Lib.hid hff
              clear HF2 hff
              go_loopw [74] (fun i wr => ∃ (j : Nat), j ≤ n6 ∧ i = .int .i64 j ∧ Hid (firstMk ff ((R.makes.take j).map (·.name)) (R.makes.drop j) = some r ∧ Below w7.heap.size w7 wr)) (fun i _ => n6 - (intOf i).toNat)
              case atStart => exact ⟨0, Nat.zero_le _, rfl, HFf.out, Below.refl _ _⟩
              case round =>
                obtain ⟨j, hj, rfl, HI⟩ := hrel
                have HAr := Lib.hid (HA7.out.below HI.out.2)
                have HUr := Lib.hid (And.intro (HU7.out.1.keep (Same.any HI.out.2)) (And.intro (HU7.out.2.1.keep (Same.any HI.out.2)) (HU7.out.2.2.same (Same.any HI.out.2 : Same Any _ _) trivial)))
                by_cases hlt : j < n6
                · have hjl : j < R.makes.length := by have := HM.out; omega
                  obtain ⟨bm, om, B, mm, em, rfl, _, p0, p1, hnl, ha⟩ := HUr.out.1.cells hlt hjl
                  have d2 := HUr.out.2.2.cell 2
                  have lD := HUr.out.2.2.lt
                  simp only [List.getElem?_cons_zero, List.getElem?_cons_succ] at d2
                  have lm := lt_of_cell p0
                  have hin := HI.out.1
                  rw [List.drop_eq_getElem_cons hjl] at hin
                  generalize hy : R.makes[j] = y at p0 p1 ha hnl hin
                  obtain ⟨yn, ya⟩ := y
                  simp only at p0 p1 ha hnl
                  have HY := Lib.hid (And.intro hy (And.intro ha hnl))
                  have HIN := Lib.hid hin
                  clear hy ha hin
                  obtain ⟨w8, hw8⟩ : ∃ w8, w8 = wr.alloc (.cells #[str yn, .slice B mm em] 80) := ⟨_, rfl⟩
                  obtain ⟨BM, hBM⟩ : ∃ BM, BM = wr.heap.size := ⟨_, rfl⟩
                  go_upto_region 19 with (fail)
                  rw [← hw8, ← hBM]
                  have hbm : Blk w8 BM 80 [str yn, .slice B mm em] := by rw [hw8, hBM]; exact Blk.new _ _ _
                  have h8 : Below wr.heap.size wr w8 := by rw [hw8]; exact (Below.refl _ _).alloc (Nat.le_refl _) _
                  have HA8 := Lib.hid (HAr.out.below h8)
                  have HU8 := Lib.hid (And.intro (HUr.out.1.keep (Same.any h8)) (And.intro (HUr.out.2.1.keep (Same.any h8)) (And.intro (HUr.out.2.2.same (Same.any h8 : Same Any _ _) trivial) hbm)))
                  have HT8 := Lib.hid (And.intro (HY.out.2.1.keep (Same.any h8)) (HI.out.2.trans (h8.mono HI.out.2.size)))
                  clear hw8 hBM hbm h8 p0 p1 lm d2 lD
                  have d2 := HU8.out.2.2.1.cell 2
                  have lD := HU8.out.2.2.1.lt
                  have m0 := HU8.out.2.2.2.cell 0
                  have m1 := HU8.out.2.2.2.cell 1
                  have lM := HU8.out.2.2.2.lt
                  simp only [List.getElem?_cons_zero, List.getElem?_cons_succ] at d2 m0 m1
                  have hsl := mks_slice HU8.out.1 hj
                  have CM := Lib.hid (containsMk_any d _ j c6 (R.makes.take j) (fun m => decide (m.name = yn)) 57 #[.pointer (some ⟨BM, 0, none⟩)] w8 (MksAt.take HU8.out.1 hj) (enters_of Try.func57 (by kernel_rfl) rfl)
                    (fun m A1 m1 c1 W hW => first1_any m.name A1 m1 c1 BM yn W ((hW.cell (p := ⟨BM, 0, none⟩) lM).trans m0)))
                  rw [any_names] at CM
                  obtain ⟨ag, hag⟩ : ∃ ag, ag = decide (yn ∈ (R.makes.take j).map (·.name)) := ⟨_, rfl⟩
                  rw [← hag] at CM
                  have HG := Lib.hid hag
                  clear hag
                  go_upto_region 20 with (go_at_call 56; refine CM.out.mono ?_; rintro e w9 ⟨rfl, hb9⟩; have H9 := Lib.hid hb9; clear hb9 d2 lD m0 m1 lM)
                  clear hsl CM
                  have HA9 := Lib.hid (HA8.out.below H9.out)
                  have HU9 := Lib.hid (And.intro (HU8.out.2.1.keep (Same.any H9.out)) (HU8.out.2.2.2.same (Same.any H9.out : Same Any _ _) trivial))
                  have HT9 := Lib.hid (And.intro (HT8.out.1.keep (Same.any H9.out)) (HT8.out.2.trans (H9.out.mono HT8.out.2.size)))
                  have hmm : mm = ya.length := by have h := HT9.out.1; obtain ⟨_, q, _⟩ := h; exact q
                  have HMM := Lib.hid hmm
                  clear hmm
                  have m0 := HU9.out.2.cell 0
                  have m1 := HU9.out.2.cell 1
                  have lM := HU9.out.2.lt
                  simp only [List.getElem?_cons_zero, List.getElem?_cons_succ] at m0 m1
                  have HN := Lib.hid (take_names hjl HY.out.1)
                  cases ag with
                  | true =>
                    have HS := Lib.hid (show firstMk ff ((R.makes.take (j + 1)).map (·.name)) (R.makes.drop (j + 1)) = some r by
                      rw [HN.out]
                      have h := HIN.out
                      rw [firstMk_skip (.inl (of_decide_eq_true HG.out.symm))] at h
                      exact h)
                    clear HIN
                    go_wp2_with (fail)
                    exact ⟨⟨j + 1, by omega, by go_num, HS.out, HT9.out.2⟩, by simp [intOf]; omega⟩
                  | false =>
                    by_cases h6 : 6 < mm
                    · have HS := Lib.hid (show firstMk ff ((R.makes.take (j + 1)).map (·.name)) (R.makes.drop (j + 1)) = some r by
                        rw [HN.out]
                        have h := HIN.out
                        rw [firstMk_skip (.inr (by have := HMM.out; show 6 < ya.length; omega))] at h
                        exact h)
                      have q6 : (6 : Int) < (mm : Int) := by omega
                      clear HIN
                      go_wp2_with (fail)
                      exact ⟨⟨j + 1, by omega, by go_num, HS.out, HT9.out.2⟩, by simp [intOf]; omega⟩
                    · obtain ⟨Q, hQ, hQ2⟩ := firstMk_go (m := ⟨yn, ya⟩) (by
                        rintro (h | h)
                        · have := HG.out; rw [decide_eq_true h] at this; cases this
                        · have := HMM.out; have h' : 6 < ya.length := h; omega) HIN.out
                      rw [← HFF.out] at hQ
                      have C := Lib.hid (firsts_any k (by omega) IHk.out d w9 p P ya B mm em (.mk R.params l2 s2) sv6 Q HA9.out.hp HT9.out.1 HU9.out.1 hQ)
                      have HQ := Lib.hid (And.intro hQ hQ2)
                      have q6 : ¬ (6 : Int) < (mm : Int) := by omega
                      have a0 := HA9.out.ba.cell 0
                      have a1 := HA9.out.ba.cell 1
                      have a2 := HA9.out.ba.cell 2
                      have a3 := HA9.out.ba.cell 3
                      have a4 := HA9.out.ba.cell 4
                      have a5 := HA9.out.ba.cell 5
                      have a6 := HA9.out.ba.cell 6
                      have a7 := HA9.out.ba.cell 7
                      have lA := HA9.out.ba.lt
                      simp only [Pg.cells, pvs, List.getElem?_cons_zero, List.getElem?_cons_succ] at a0 a1 a2 a3 a4 a5 a6 a7
                      simp only [Pg.cells, pvs] at C
                      clear hQ hQ2 HIN h6
                      go_upto_region 22 with (go_at_call 55; refine C.out.mono ?_; intro e w10 h10; have H10 := Lib.hid h10; clear h10; obtain ⟨A9, n9, c9, ok9, rfl⟩ : ∃ A9 n9 c9 ok9, e = .returned (.tuple #[.slice A9 n9 c9, .bool ok9]) := FirstsPost.form H10.out)
                      clear C a0 a1 a2 a3 a4 a5 a6 a7 lA m0 m1 lM
                      cases ok9 with
                      | false =>
                        have HS := Lib.hid (show firstMk ff ((R.makes.take (j + 1)).map (·.name)) (R.makes.drop (j + 1)) = some r by
                          rw [HN.out]
                          rcases HQ.out.2 with ⟨_, h⟩ | ⟨vs, h, _⟩
                          · exact h
                          · rw [FirstsPost.bad H10.out] at h; cases h)
                        have HB := Lib.hid (HT9.out.2.trans ((FirstsPost.below H10.out).mono HT9.out.2.size))
                        clear HQ
                        go_wp2_with (fail)
                        exact ⟨⟨j + 1, by omega, by go_num, HS.out, HB.out⟩, by simp [intOf]; omega⟩
                      | true =>
                        have HA10 := Lib.hid (HA9.out.below (FirstsPost.below H10.out))
                        have g := HU9.out.2.same (Same.any (FirstsPost.below H10.out) : Same Any _ _) trivial
                        have m0 := g.cell 0
                        have lM := g.lt
                        have c0 := HA10.out.bc.cell 0
                        have c1 := HA10.out.bc.cell 1
                        have c2' := HA10.out.bc.cell 2
                        have c3' := HA10.out.bc.cell 3
                        have z0 := HA10.out.bc.frozen 0
                        have z1 := HA10.out.bc.frozen 1
                        have z2 := HA10.out.bc.frozen 2
                        have z3 := HA10.out.bc.frozen 3
                        have lC := HA10.out.bc.lt
                        simp only [List.getElem?_cons_zero, List.getElem?_cons_succ] at m0 c0 c1 c2' c3'
                        have hE := Lib.hid (fir_end rfl HA10.out.be HA10.out.lo.1 HA10.out.bc (.int .i64 5) (.int .i64 0) (str yn) (.slice A9 n9 c9))
                        clear g
                        go_wp2_with (fail)
                        refine ret_blk_tmp rfl rfl hE.out.1 Try.underlying47 (by kernel_rfl) rfl ?_
                        obtain ⟨l, hl, hn9, ho⟩ := FirstsPost.good H10.out
                        subst hl hn9
                        rcases HQ.out.2 with ⟨h, _⟩ | ⟨vs, h, hr⟩
                        · cases h
                        · injection h with h
                          subst h hr
                          refine ⟨hE.out.2.1, A9, c9, rfl, ?_⟩
                          have hle : l.length ≤ 4194304 := by
                            have h1 := manyR_len HQ.out.1 rfl
                            have h2 : ya.length = mm := HMM.out.symm
                            have h3 : l.length = ya.length := h1
                            omega
                          have hv := VsOwn.at_ ho hle
                          exact vcells_of (k := 5) (n := 0) ((hv.keep (hE.out.2.2 _ fun b hb e => by have := HA9.out.lo.2; have hb' : w9.heap.size ≤ b := hb; omega)).imp fun b hb _ => by have h1 := HA9.out.be.size; have hb' : w9.heap.size ≤ b := hb; show w.heap.size ≤ b; omega) ⟨by omega, by omega⟩ ⟨by omega, by omega⟩ (by have := HY.out.2.2; have e := txt_size yn; show (txt yn).size ≤ _; omega)
                · have hend := HI.out.1
                  rw [List.drop_eq_nil_of_le (by have := HM.out; omega)] at hend
                  unfold firstMk at hend
                  have HR := Lib.hid (Option.some.inj hend)
                  have c0 := HAr.out.bc.cell 0
                  have c1 := HAr.out.bc.cell 1
                  have c2' := HAr.out.bc.cell 2
                  have c3' := HAr.out.bc.cell 3
                  have z0 := HAr.out.bc.frozen 0
                  have z1 := HAr.out.bc.frozen 1
                  have z2 := HAr.out.bc.frozen 2
                  have z3 := HAr.out.bc.frozen 3
                  have lC := HAr.out.bc.lt
                  simp only [List.getElem?_cons_zero, List.getElem?_cons_succ] at c0 c1 c2' c3'
                  have hE := Lib.hid (fir_end rfl HAr.out.be HAr.out.lo.1 HAr.out.bc (.int .i64 0) (.int .i64 0) (.string ⟨#[]⟩) (.slice none 0 0))
                  clear hend
                  go_wp2_with (fail)
                  refine ret_blk_tmp rfl rfl hE.out.1 Try.underlying47 (by kernel_rfl) rfl ?_
                  rw [← HR.out]
                  exact ⟨hE.out.2.1, 0, none, 0, 0, rfl⟩
            · rw [if_neg hl] at hf
              cases hf
        · have hf := HF.out
          rw [if_neg h9, if_neg h6] at hf
          have HR := Lib.hid (Option.some.inj hf)
          have e9 : ((k2 : Int) == 9) = false := by simp; omega
          have e6 : ((k2 : Int) == 6) = false := by simp; omega
          clear hf HF hsm h9 h6
          go_wp2_with (go_at_call 51; refine (KB.out _).mono ?_; rintro e w' ⟨rfl, rfl⟩)
          refine ret_blk_tmp rfl rfl hE.out.1 Try.underlying47 (by kernel_rfl) rfl ?_
          rw [← HR.out]
          exact ⟨hE.out.2.1, 0, none, 0, 0, rfl⟩
end Go.Proofs.Ytoddjdajjmcliaa
