/- Contract of the search's candidates. -/
import Derived.Test.YtpdjeaiojfghnaaDoorSvOpen
set_option linter.unusedVariables false
namespace Go.Sv
open Go.RowKit Go.Mem
/-- a row of modules of the call's own -/
def mdsOf (ms : List Md) (first : List Pk) (n : Nm) : List Md × List Md → Md → List Md × List Md := fun acc m =>
  if m.name = n then (if (m.name, m.ver) ∈ first then (acc.1 ++ [m], acc.2) else (acc.1, acc.2 ++ [m])) else acc
theorem cands_fold (ms : List Md) (first : List Pk) (n : Nm) : ∀ (l : List Md) (acc : List Md × List Md), l.foldl (mdsOf ms first n) acc = (acc.1 ++ l.filter (fun m => decide (m.name = n) && decide ((m.name, m.ver) ∈ first)), acc.2 ++ l.filter fun m => decide (m.name = n) && !decide ((m.name, m.ver) ∈ first))
  | [], acc => by simp
  | m :: l, acc => by
    rw [List.foldl_cons, cands_fold ms first n l]
    unfold mdsOf
    by_cases h1 : m.name = n
    · subst h1
      rw [if_pos rfl]
      by_cases h2 : (m.name, m.ver) ∈ first
      · rw [if_pos h2]; simp [h2]
      · rw [if_neg h2]; simp [h2]
    · rw [if_neg h1]; simp [h1]
theorem cands_eq (ms : List Md) (first : List Pk) (n : Nm) : candsF ms first n = (ms.reverse.foldl (mdsOf ms first n) ([], [])).1 ++ (ms.reverse.foldl (mdsOf ms first n) ([], [])).2 := by
  rw [cands_fold]
  rfl
theorem rev_take (ms : List Md) (j : Nat) (h : j < ms.length) : ms.reverse.take (j + 1) = ms.reverse.take j ++ [ms[ms.length - 1 - j]] := by
  rw [List.take_succ_eq_append_getElem (by simpa using h)]
  simp
end Go.Sv
namespace Go.Proofs.YtpdjeaiojfghnaaDoor
open Go.RowKit Go.Mem Go.Sv Go.Maps
theorem info_md : (Tryd.prog.info? 52).map (fun i => (i.zero, i.size, i.bytes)) = some (some (.agg #[.string ⟨#[]⟩, .int .i64 0, .slice none 0 0]), 3, 48) := by kernel_rfl
theorem app_md (w : World) {ops : Array Oper} {rest : List Oper} {o : Oper} {a : Act} {Q : Exit → Act → World → Prop} (hgd : o.guard = none) (s x : Operand)
    (ho : o.op = .call { callee := .builtin .append, args := #[s, x], argTypes := #[27, 27] })
    {base : Nat} {v : Value} {n : Nat} {xs : List Value} (hown : w.ownsRow base 52 3 v n xs) (hs : a.eval s = v)
    {D : Nat → Prop} {A : Option Addr} {m : Nat} {news : List Value} (hr : Reads w D 3 A m news) {c : Nat} (hx : a.eval x = .slice A m c) (h1 : ∀ u ∈ news, u.oneCell' = true)
    (h63 : n + m ≤ 1099511627776) (hbase : base ≤ w.heap.size)
    (h : ∀ v' w', w'.ownsRow base 52 3 v' (n + m) (xs ++ news) → w.grownBy w' v.ownBlock → (v'.ownBlock = v.ownBlock ∨ v'.ownBlock = some w.heap.size) → wpList Tryd.prog ops Q rest (a.put o.dst v') w') : wpList Tryd.prog ops Q (o :: rest) a w := by
  obtain ⟨i0, hi0, hz0, hz1, hz2⟩ := info_parts info_md
  exact wpList_append_any w hgd s x _ ho base _ i0 _ 3 48 Tryd.underlying27 hi0 hz0 hz1 hz2 rfl (by omega) v n xs hs hown D A m c news hx hr h1 (by simp only [maxLen]; omega) (by omega) hbase h
def Old (S PK : Nat) (w0 : World) (q : Nat) : Prop := q < w0.heap.size ∧ Ap2 S PK q
/-- a row of modules of the call's own; what they want lies in older blocks -/
def OwnM (S PK : Nat) (w0 w : World) (l : List Md) (A : Option Addr) (n c : Nat) : Prop := ∃ vss, n = l.length ∧ w.ownsRow w0.heap.size 52 3 (.slice A n c) n vss.flatten ∧ All2 (MdCells w (Old S PK w0)) vss l
theorem OwnM.nil (S PK : Nat) (w0 w : World) : OwnM S PK w0 w [] none 0 0 := ⟨[], rfl, World.ownsRow_nil _ _ _ _, All2.nil⟩
theorem OwnM.lt {S PK : Nat} {w0 w : World} {l : List Md} {A : Option Addr} {n c : Nat} (h : OwnM S PK w0 w l A n c) : ∀ k, (Value.slice A n c).ownBlock = some k → w0.heap.size ≤ k ∧ k < w.heap.size := by
  obtain ⟨vss, _, h1, _⟩ := h
  exact h1.lt
/-- kept where its block, and what is older, is as it was -/
theorem OwnM.keep {S PK : Nat} {w0 w w' : World} {l : List Md} {A : Option Addr} {n c : Nat} (h : OwnM S PK w0 w l A n c) (hb : Below w0.heap.size w w') (hk : ∀ b, (Value.slice A n c).ownBlock = some b → w'.heap[b]? = w.heap[b]?) : OwnM S PK w0 w' l A n c := by
  obtain ⟨vss, h0, h1, h2⟩ := h
  refine ⟨vss, h0, ?_, h2.imp fun x y hxy => MdCells.stable.keep hxy fun b hb' _ => hb.block b hb'.1⟩
  refine ⟨h1.1, ?_⟩
  rcases h1.2 with h3 | ⟨g, cap, cur, e, hb', hg, r⟩
  · exact .inl h3
  · exact .inr ⟨g, cap, cur, e, hb', (hk g (by rw [e]; rfl)).trans hg, r⟩
theorem all2_append {α β : Type} {R : α → β → Prop} {xs xs' : List α} {ys ys' : List β} (h : All2 R xs ys) (k : All2 R xs' ys') : All2 R (xs ++ xs') (ys ++ ys') := by
  refine ⟨by simp [h.1, k.1], fun i x y h1 h2 => ?_⟩
  rw [List.getElem?_append] at h1 h2
  by_cases e : i < xs.length
  · rw [if_pos e] at h1
    rw [if_pos (by rw [← h.1]; exact e)] at h2
    exact h.2 i x y h1 h2
  · rw [if_neg e] at h1
    rw [if_neg (by rw [← h.1]; exact e)] at h2
    exact k.2 _ x y h1 (by rw [h.1]; exact h2)
theorem all2_one {α β : Type} {R : α → β → Prop} {x : α} {y : β} (h : R x y) : All2 R [x] [y] := All2.cons_mk h All2.nil
theorem OwnM.app {S PK : Nat} {w0 w w' : World} {l r : List Md} {A A' : Option Addr} {n c m c' : Nat} {vss uss' : List (List Value)} (h0 : n = l.length) (h1 : w.ownsRow w0.heap.size 52 3 (.slice A n c) n vss.flatten) (h2 : All2 (MdCells w (Old S PK w0)) vss l)
    (hm : m = r.length) (hall : All2 (MdCells w (Old S PK w0)) uss' r) (hg : w.grownBy w' (Value.slice A n c).ownBlock)
    (hown : w'.ownsRow w0.heap.size 52 3 (.slice A' (n + m) c') (n + m) (vss.flatten ++ uss'.flatten)) : OwnM S PK w0 w' (l ++ r) A' (n + m) c' := by
  have hs : Same (Old S PK w0) w w' := fun b hb hl => hg.block b hl fun e => by have := (h1.lt b e.symm).1; have := hb.1; omega
  refine ⟨vss ++ uss', by simp; omega, ?_, ?_⟩
  · rw [List.flatten_append]
    exact hown
  · exact all2_append (h2.imp fun x y hxy => MdCells.stable.keep hxy hs) (hall.imp fun x y hxy => MdCells.stable.keep hxy hs)
theorem grown_of_alloc {w w2 : World} {o : Obj} {row : Option Nat} (h : (w.alloc o).grownBy w2 row) : w.grownBy w2 row :=
  ⟨h.os, h.tape, h.output, Nat.le_trans (by simp) h.size, fun k hk hne => (h.block k (by simp; omega) hne).trans (Below.heap_alloc w o k hk)⟩
theorem OwnM.mdsAt {S PK : Nat} {w0 w : World} {l : List Md} {A : Option Addr} {n c : Nat} (h : OwnM S PK w0 w l A n c) (hS : S < w0.heap.size) (hP : PK < w0.heap.size) : MdsAt w (Ap2 S PK) A n c l := by
  obtain ⟨vss, h0, h1, h2⟩ := h
  obtain ⟨q1, q2, q3⟩ := own_reads (by omega) h1
  exact ⟨vss, h0, q1, q2, q3.imp (by omega) fun b hb _ => (by unfold Ap2; omega), h2.imp fun x y hxy => MdCells.stable.imp hxy fun _ hb _ => hb.2⟩
structure CandAt (S PK : Nat) (w wr : World) (pr ot : List Md) (A5 : Option Addr) (n5 c5 : Nat) (A6 : Option Addr) (n6 c6 : Nat) : Prop where
  pr : OwnM S PK w wr pr A5 n5 c5
  ot : OwnM S PK w wr ot A6 n6 c6
  ne : ∀ g, (Value.slice A5 n5 c5).ownBlock = some g → (Value.slice A6 n6 c6).ownBlock ≠ some g
  bl : Below w.heap.size w wr
set_option maxRecDepth 100000 in
set_option maxHeartbeats 2000000 in
theorem cands_any (w : World) (S PK : Nat) (A1 : Option Addr) (n1 c1 : Nat) (ms : List Md) (A2 : Option Addr) (n2 c2 : Nat) (first : List Pk) (Aw : Option Addr) (nw cw : Nat) (ws : List Us) (l : List (Nm × Value)) (nm : Nm)
    (h : SearchAt w S PK A1 n1 c1 ms A2 n2 c2 first Aw nw cw ws l) (hm : MsOk ms) (hf : n2 ≤ 1000) :
    Calls Tryd.prog 30 #[.pointer (some ⟨S, 0, none⟩), str nm] w fun e w' => ∃ A c, e = .returned (.slice A (candsF ms first nm).length c) ∧ MdsAt w' (Ap2 S PK) A (candsF ms first nm).length c (candsF ms first nm) ∧ Below w.heap.size w w' := by
  have hn1 : n1 = ms.length := by obtain ⟨_, h1, _⟩ := h.md; exact h1
  have hn30 : n1 ≤ 30 := by have := hm.ln; omega
  have HS := Lib.hid h
  have HM := Lib.hid hm
  have HN := Lib.hid hn1
  have HE := Lib.hid (cands_eq ms first nm)
  generalize candsF ms first nm = C at HE ⊢
  have s0 := h.blk.cell 0
  have s1 := h.blk.cell 1
  simp only [List.getElem?_cons_zero, List.getElem?_cons_succ] at s0 s1
  have lS := h.blk.lt
  have e1 : IntKind.i64.wrap ((n1 : Int) - 1) = (n1 : Int) - 1 := IntWalk.i64_in _ (by omega)
  clear h hm hn1
  go_enter Tryd.func30, Tryd.ntmps30
  go_wp2_with (fail)
  go_loopw [5, 6, 7] (fun v5 v6 v wr => ∃ (i j n5 c5 n6 c6 : Nat) (A5 A6 : Option Addr) (pr ot : List Md), i + j = n1 ∧ v = .int .i64 ((i : Int) - 1) ∧ v5 = .slice A5 n5 c5 ∧ v6 = .slice A6 n6 c6 ∧ n5 + n6 ≤ j ∧ Hid (CandAt S PK w wr pr ot A5 n5 c5 A6 n6 c6 ∧ (pr, ot) = (ms.reverse.take j).foldl (mdsOf ms first nm) ([], []))) (fun _ _ v _ => (intOf v + 1).toNat)
  case atStart => exact ⟨n1, 0, 0, 0, 0, 0, none, none, [], [], by omega, rfl, rfl, rfl, by omega, ⟨OwnM.nil S PK w w, OwnM.nil S PK w w, fun g h => by simp [Value.ownBlock] at h, Below.refl _ _⟩, rfl⟩
  case round =>
    obtain ⟨i, j, n5, c5, n6, c6, A5, A6, pr, ot, hij, rfl, rfl, rfl, hnn, HI⟩ := hrel
    have hsr : SearchAt wr S PK A1 n1 c1 ms A2 n2 c2 first Aw nw cw ws l := HS.out.below HI.out.1.bl
    have t0 := hsr.blk.cell 0
    simp only [List.getElem?_cons_zero] at t0
    have lSr := hsr.blk.lt
    by_cases hi : 1 ≤ i
    · obtain ⟨k, rfl⟩ : ∃ k, i = k + 1 := ⟨i - 1, by omega⟩
      have hk : k < n1 := by omega
      have hkl : k < ms.length := by have := HN.out; omega
      obtain ⟨b1, o1, Au, nu, cu, rfl, hD1, p0, p1, p2, q1, q2, q3, q4⟩ := HS.out.md.cells hk hkl
      replace p0 := (Same.any (D := Any) HI.out.1.bl).cell trivial p0
      replace p1 := (Same.any (D := Any) HI.out.1.bl).cell trivial p1
      replace p2 := (Same.any (D := Any) HI.out.1.bl).cell trivial p2
      have hfold : (ms.reverse.take (j + 1)).foldl (mdsOf ms first nm) ([], []) = mdsOf ms first nm (pr, ot) ms[k] := by
        have hjm : j < ms.length := by have := HN.out; omega
        rw [rev_take ms j hjm, List.foldl_append, ← HI.out.2]
        have : ms.length - 1 - j = k := by have := HN.out; omega
        simp only [this]
        rfl
      have hvr := HM.out.vr _ (List.getElem_mem hkl)
      obtain ⟨y, hy⟩ : ∃ y, y = ms[k] := ⟨_, rfl⟩
      rw [← hy] at p0 p1 q1 q4 hfold hvr
      obtain ⟨yn, yv, yu⟩ := y
      simp only at p0 p1 q1 q4 hvr
      obtain ⟨nu2, hnu2⟩ : ∃ k, k = nu := ⟨_, rfl⟩
      rw [← hnu2] at p2 q1 q2 q4
      obtain ⟨D, hD⟩ : ∃ D, D = wr.heap.size := ⟨_, rfl⟩
      obtain ⟨W, hW⟩ : ∃ W, W = wr.alloc (.cells #[str yn, .int .i64 (yv : Nat), .slice Au nu2 cu] 52) := ⟨_, rfl⟩
      have hbk : Blk W D 52 [str yn, .int .i64 (yv : Nat), .slice Au nu2 cu] := by rw [hW, hD]; exact Blk.new wr _ _
      have hbW0 : Below wr.heap.size wr W := by rw [hW]; exact (Below.refl _ _).alloc (Nat.le_refl _) _
      have hbW : Below w.heap.size w W := HI.out.1.bl.trans (hbW0.mono HI.out.1.bl.size)
      have hMd : MdCells W (Old S PK w) [str yn, .int .i64 (yv : Nat), .slice Au nu2 cu] ⟨yn, yv, yu⟩ := by
        exact ⟨Au, nu2, cu, rfl, q1, q2, q3, (q4.imp (by omega) fun b hb hl => ⟨hl, hb⟩).keep fun b hb' _ => hbW.block b hb'.1⟩
      have HMd := Lib.hid hMd
      have HBk := Lib.hid hbk
      have HBW := Lib.hid hbW
      have HP := Lib.hid (HI.out.1.pr.keep (hbW0.mono HI.out.1.bl.size) fun b hb => hbW0.block b (HI.out.1.pr.lt b hb).2)
      have HO := Lib.hid (HI.out.1.ot.keep (hbW0.mono HI.out.1.bl.size) fun b hb => hbW0.block b (HI.out.1.ot.lt b hb).2)
      have HNe := Lib.hid (And.intro HI.out.1.ne (And.intro (fun g h => (HI.out.1.pr.lt g h).2) (fun g h => (HI.out.1.ot.lt g h).2)))
      have hsW := HS.out.below hbW
      have HSW := Lib.hid hsW
      have HF := Lib.hid hfold
      have ws := hbW.size
      clear hMd hfold HI q4 hsr hy hnu2 q1 q2 q3 hbW0
      go_upto_region 7 with (fail)
      rw [← hW, ← hD]
      have e0 := HBk.out.cell 0
      have e1' := HBk.out.cell 1
      have e2' := HBk.out.cell 2
      simp only [List.getElem?_cons_zero, List.getElem?_cons_succ] at e0 e1' e2'
      have lD := HBk.out.lt
      have t1 := hsW.blk.cell 1
      simp only [List.getElem?_cons_zero, List.getElem?_cons_succ] at t1
      have lSW := hsW.blk.lt
      clear hW hD p0 p1 p2 hbk hbW t0 lSr hsW
      have hk2 : IntKind.i64.wrap ((k : Int) - 1) = (k : Int) - 1 := IntWalk.i64_in _ (by omega)
      by_cases hyn : yn = nm
      · subst hyn
        have hne : (yn == yn) = true := by simp
        obtain ⟨r, hr⟩ : ∃ r, decide ((yn, yv) ∈ first) = r := ⟨_, rfl⟩
        have CT := Lib.hid (containsPk_any A2 n2 c2 first (yn, yv) r W.drew (HSW.out.fr.2.drew.imp (by omega) fun _ _ _ => trivial) HSW.out.fr.1 (by omega) hr)
        have HRr := Lib.hid hr
        have hnu63 : HMd = HMd := rfl
        clear hr
        go_wp2_with (fail)
        go_region_held3 (fun w' => w'.cell? ⟨S, 1, none⟩ = some (.slice A2 n2 c2) ∧ w'.cell? ⟨D, 0, none⟩ = some (str yn) ∧ w'.cell? ⟨D, 1, none⟩ = some (.int .i64 (yv : Nat)))
          (first | exact ⟨(hb3.cell (p := ⟨S, 1, none⟩) lSW).trans t1, (hb3.cell (p := ⟨D, 0, none⟩) lD).trans e0, (hb3.cell (p := ⟨D, 1, none⟩) lD).trans e1'⟩ | go_keep)
          (first | (go_at_call 45; refine CT.out.mono ?_; rintro e w3 ⟨rfl, hb3⟩))
        have hb3' : Below W.heap.size W w3 := ⟨hb3.os, hb3.tape, hb3.output, hb3.size, hb3.block⟩
        have bk3 := HBk.out.below hb3' lD
        have f0 := bk3.cell 0
        have f1 := bk3.cell 1
        have f2 := bk3.cell 2
        simp only [List.getElem?_cons_zero, List.getElem?_cons_succ] at f0 f1 f2
        have lD3 := bk3.lt
        have HP3 := Lib.hid (HP.out.keep (hb3'.mono ws) fun b hb => hb3'.block b (HP.out.lt b hb).2)
        have HO3 := Lib.hid (HO.out.keep (hb3'.mono ws) fun b hb => hb3'.block b (HO.out.lt b hb).2)
        have HMd3 := Lib.hid (MdCells.stable.keep HMd.out (w' := w3) fun b hb' hl => hb3'.block b hl)
        have HB3 := Lib.hid (HBW.out.trans (hb3'.mono HBW.out.size))
        have ws3 : w.heap.size ≤ w3.heap.size := Nat.le_trans ws hb3'.size
        clear hb3 hb3' bk3 e0 e1' e2' t1 lSW lD CT
        cases r
        · obtain ⟨vss, h0, h1, h2⟩ := HO3.out
          have H1 := Lib.hid h1
          have H02 := Lib.hid (And.intro h0 h2)
          clear h0 h1 h2
          have hf3 : mdsOf ms first yn (pr, ot) ⟨yn, yv, yu⟩ = (pr, ot ++ [⟨yn, yv, yu⟩]) := by unfold mdsOf; rw [if_pos rfl]; simp only; rw [if_neg (by simpa using HRr.out)]
          have HF3 := Lib.hid (HF.out.trans hf3)
          clear hf3
          go_wp2_with (at_builtin; refine app_md _ rfl (.tmp 26) (.tmp 28) rfl (H1.out.alloc _) rfl (Reads.new (D := Any) _ [str yn, .int .i64 (yv : Nat), .slice Au nu2 cu] 3 1 52 trivial rfl) rfl (by simp [Value.oneCell']) (by omega) (by simp; omega) ?_; intro v4 w4 hown4 hg4 hat4; obtain ⟨A9, c9, rfl, _⟩ := own_form hown4)
          have hg4' := grown_of_alloc hg4
          have hnew := OwnM.app (r := [⟨yn, yv, yu⟩]) (uss' := [[str yn, .int .i64 (yv : Nat), .slice Au nu2 cu]]) H02.out.1 H1.out H02.out.2 rfl (all2_one HMd3.out) hg4' (by simpa using hown4)
          have hbl4 := HB3.out.grown hg4' HB3.out.size fun b hb => (HO3.out.lt b hb).1
          have hoth := HP3.out.keep ((Below.refl _ _).grown hg4' ws3 fun b hb => (HO3.out.lt b hb).1) fun b hb => hg4'.block b (HP3.out.lt b hb).2 fun e => HNe.out.1 b hb e.symm
          refine ⟨⟨k, j + 1, n5, c5, n6 + 1, c9, A5, A9, pr, ot ++ [⟨yn, yv, yu⟩], by omega, rfl, rfl, rfl, by omega, ⟨hoth, hnew, ?_, hbl4⟩, HF3.out.symm⟩, by simp [intOf]⟩
          intro g hg hg2
          have hsz3 : (w3.alloc (.cells #[str yn, .int .i64 (yv : Nat), .slice Au nu2 cu] 52)).heap.size = w3.heap.size + 1 := by simp
          rcases hat4 with h | h
          · rw [h] at hg2; exact HNe.out.1 g hg hg2
          · rw [h, hsz3] at hg2; injection hg2 with hg2; have := (HP3.out.lt g hg).2; omega
        · obtain ⟨vss, h0, h1, h2⟩ := HP3.out
          have H1 := Lib.hid h1
          have H02 := Lib.hid (And.intro h0 h2)
          clear h0 h1 h2
          have hf3 : mdsOf ms first yn (pr, ot) ⟨yn, yv, yu⟩ = (pr ++ [⟨yn, yv, yu⟩], ot) := by unfold mdsOf; rw [if_pos rfl]; simp only; rw [if_pos (by simpa using HRr.out)]
          have HF3 := Lib.hid (HF.out.trans hf3)
          clear hf3
          go_wp2_with (at_builtin; refine app_md _ rfl (.tmp 46) (.tmp 48) rfl (H1.out.alloc _) rfl (Reads.new (D := Any) _ [str yn, .int .i64 (yv : Nat), .slice Au nu2 cu] 3 1 52 trivial rfl) rfl (by simp [Value.oneCell']) (by omega) (by simp; omega) ?_; intro v4 w4 hown4 hg4 hat4; obtain ⟨A9, c9, rfl, _⟩ := own_form hown4)
          have hg4' := grown_of_alloc hg4
          have hnew := OwnM.app (r := [⟨yn, yv, yu⟩]) (uss' := [[str yn, .int .i64 (yv : Nat), .slice Au nu2 cu]]) H02.out.1 H1.out H02.out.2 rfl (all2_one HMd3.out) hg4' (by simpa using hown4)
          have hbl4 := HB3.out.grown hg4' HB3.out.size fun b hb => (HP3.out.lt b hb).1
          have hoth := HO3.out.keep ((Below.refl _ _).grown hg4' ws3 fun b hb => (HP3.out.lt b hb).1) fun b hb => hg4'.block b (HO3.out.lt b hb).2 fun e => HNe.out.1 b e.symm hb
          refine ⟨⟨k, j + 1, n5 + 1, c9, n6, c6, A9, A6, pr ++ [⟨yn, yv, yu⟩], ot, by omega, rfl, rfl, rfl, by omega, ⟨hnew, hoth, ?_, hbl4⟩, HF3.out.symm⟩, by simp [intOf]⟩
          intro g hg hg2
          have hsz3 : (w3.alloc (.cells #[str yn, .int .i64 (yv : Nat), .slice Au nu2 cu] 52)).heap.size = w3.heap.size + 1 := by simp
          rcases hat4 with h | h
          · rw [h] at hg; exact HNe.out.1 g hg hg2
          · rw [h, hsz3] at hg; injection hg with hg; have := (HO3.out.lt g hg2).2; omega
      · have hne : (yn == nm) = false := by simpa using hyn
        have hf2 : mdsOf ms first nm (pr, ot) ⟨yn, yv, yu⟩ = (pr, ot) := by unfold mdsOf; rw [if_neg hyn]
        have HF2 := Lib.hid (HF.out.trans hf2)
        clear hf2 hyn
        go_wp2_with (fail)
        exact ⟨⟨k, j + 1, n5, c5, n6, c6, A5, A6, pr, ot, by omega, rfl, rfl, rfl, by omega, ⟨HP.out, HO.out, HNe.out.1, HBW.out⟩, HF2.out.symm⟩, by simp [intOf]⟩
    · obtain rfl : i = 0 := by omega
      have hall : ms.reverse.take j = ms.reverse := List.take_of_length_le (by have := HN.out; simp; omega)
      have hfin := HI.out.2
      rw [hall] at hfin
      have hC : C = pr ++ ot := by rw [HE.out, ← hfin]
      have HCC := Lib.hid hC
      obtain ⟨vss, h0, h1, h2⟩ := HI.out.1.pr
      obtain ⟨uss', k0, k1, k2⟩ := HI.out.1.ot
      have HP := Lib.hid (And.intro h0 (And.intro h1 h2))
      have HO := Lib.hid (And.intro k0 (And.intro k1 k2))
      obtain ⟨q1, q2, q3⟩ := own_reads (by omega) k1
      have hss := HI.out.1.bl.size
      have hones : ∀ u ∈ uss'.flatten, u.oneCell' = true := fun u hu => by
        obtain ⟨cs, hcs, hu⟩ := List.mem_flatten.1 hu
        obtain ⟨i, hi, rfl⟩ := List.mem_iff_getElem.1 hcs
        have hi2 : i < ot.length := by rw [← k2.1]; exact hi
        exact MdCells.stable.one (k2.2 i _ _ (List.getElem?_eq_getElem hi) (List.getElem?_eq_getElem hi2)) u hu
      have HQ := Lib.hid (And.intro q3 hones)
      clear hall hfin hC h0 h1 h2 k0 k1 k2 q1 q2 q3 hones
      go_wp2_with (at_builtin; refine app_md _ rfl (.tmp 50) (.tmp 51) rfl HP.out.2.1 rfl HQ.out.1 rfl HQ.out.2 (by omega) (by omega) ?_; intro v4 w4 hown4 hg4 hat4; obtain ⟨A9, c9, rfl, _⟩ := own_form hown4)
      have hnew := OwnM.app (r := ot) (uss' := uss') HP.out.1 HP.out.2.1 HP.out.2.2 HO.out.1 HO.out.2.2 hg4 hown4
      have hlen : n5 + n6 = C.length := by rw [HCC.out, List.length_append, HP.out.1, HO.out.1]
      go_ret
      have hm := hnew.mdsAt HS.out.blk.lt HS.out.mp.lt
      rw [← HCC.out, hlen] at hm
      exact ⟨A9, c9, by rw [← hlen]; rfl, hm, HI.out.1.bl.grown hg4 hss fun b hb => (HP.out.2.1.lt b hb).1⟩
end Go.Proofs.YtpdjeaiojfghnaaDoor
