/- Words for Ways in memory; when the messages of two actors of the laws are the same. · Contract of renew.Plan at programs of the laws. -/
import Derived.Test.YtoddjdajjmcliaaRnPlan
set_option linter.unusedVariables false
namespace Go.Sh
open Go.Val Go.Mem Go.Proofs.Ytoddjdajjmcliaa
theorem msg_all : (progs.all fun P => progs.all fun Q => [1, 2].all fun a => [1, 2].all fun b => same12 P Q (oneT a) (oneT b) == some (decide (a = b))) = true := by decide +kernel
theorem msg_law {P Q : List Dt} (hP : P ∈ progs) (hQ : Q ∈ progs) {a b : Nat} (ha : 1 ≤ a ∧ a ≤ 2) (hb : 1 ≤ b ∧ b ≤ 2) : ∃ s, sameF P Q 12 [] (oneT a) (oneT b) [] [] = some (decide (a = b), s) := by
  have h1 : a ∈ [1, 2] := by have : a = 1 ∨ a = 2 := by omega
                             rcases this with rfl | rfl <;> simp
  have h2 : b ∈ [1, 2] := by have : b = 1 ∨ b = 2 := by omega
                             rcases this with rfl | rfl <;> simp
  have h := List.all_eq_true.1 (List.all_eq_true.1 (List.all_eq_true.1 (List.all_eq_true.1 msg_all P hP) Q hQ) a h1) b h2
  exact same_of (by simpa using h)
end Go.Sh
namespace Go.Proofs.Ytoddjdajjmcliaa
open Go.RowKit Go.Mem Go.Sh Go.Maps Go.Val
theorem info_mv : (Try.prog.info? 99).map (fun i => (i.zero, i.size, i.bytes)) = some (some (.agg #[.string ⟨#[]⟩, .int .i64 0, .slice none 0 0, .slice none 0 0]), 4, 72) := by kernel_rfl
/-- append of Moves onto a row of the call's own -/
theorem app_Mv (w : World) {ops : Array Oper} {rest : List Oper} {o : Oper} {a : Act} {Q : Exit → Act → World → Prop} (hgd : o.guard = none) (s x : Operand)
    (ho : o.op = .call { callee := .builtin .append, args := #[s, x], argTypes := #[58, 58] })
    {base : Nat} {v : Value} {n : Nat} {xs : List Value} (hown : w.ownsRow base 99 4 v n xs) (hs : a.eval s = v)
    {D : Nat → Prop} {A : Option Addr} {m : Nat} {news : List Value} (hr : Reads w D 4 A m news) {c : Nat} (hx : a.eval x = .slice A m c) (h1 : ∀ u ∈ news, u.oneCell' = true)
    (h63 : n + m ≤ 100000000) (hbase : base ≤ w.heap.size)
    (h : ∀ v' w', w'.ownsRow base 99 4 v' (n + m) (xs ++ news) → w.grownBy w' v.ownBlock → (v'.ownBlock = v.ownBlock ∨ v'.ownBlock = some w.heap.size) → wpList Try.prog ops Q rest (a.put o.dst v') w') : wpList Try.prog ops Q (o :: rest) a w := by
  obtain ⟨i0, hi0, hz0, hz1, hz2⟩ := info_parts info_mv
  exact wpList_append_any w hgd s x _ ho base _ i0 _ 4 72 Try.underlying58 hi0 hz0 hz1 hz2 rfl (by omega) v n xs hs hown D A m c news hx hr h1 (by simp only [maxLen]; omega) (by omega) hbase h
/-- a Way with one Move in memory -/
def WayAt (w : World) (D : Nat → Prop) (M : Option Addr) (cM n : Nat) (fl : List Fld) (lost : List Nat) : Prop :=
  ∃ F cF Ls cL, Reads w D 4 M 1 [str [65], .int .i64 (n : Nat), .slice F fl.length cF, .slice Ls lost.length cL] ∧ (1 ≤ cM ∧ cM ≤ maxLen) ∧ MoveAt w D F fl.length cF Ls lost.length cL fl lost
theorem WayAt.keep {w w' : World} {D : Nat → Prop} {M : Option Addr} {cM n : Nat} {fl : List Fld} {lost : List Nat} (h : WayAt w D M cM n fl lost) (hk : Same D w w') : WayAt w' D M cM n fl lost := by
  obtain ⟨F, cF, Ls, cL, h1, h2, h3⟩ := h
  exact ⟨F, cF, Ls, cL, h1.keep hk, h2, h3.keep hk⟩
theorem WayAt.imp {w : World} {D D' : Nat → Prop} {M : Option Addr} {cM n : Nat} {fl : List Fld} {lost : List Nat} (h : WayAt w D M cM n fl lost) (hk : ∀ b, D b → b < w.heap.size → D' b) : WayAt w D' M cM n fl lost := by
  obtain ⟨F, cF, Ls, cL, h1, h2, h3⟩ := h
  exact ⟨F, cF, Ls, cL, h1.imp (by omega) hk, h2, h3.imp hk⟩
/-- what Plan hands back -/
def WayPost (w : World) (n : Nat) : Option (List Fld) → Ending → World → Prop
  | none, e, w' => e = .returned (.tuple #[.agg #[.slice none 0 0], .int .i64 12]) ∧ Below w.heap.size w w'
  | some fl, e, w' => (∃ M cM, e = .returned (.tuple #[.agg #[.slice M 1 cM], .int .i64 0]) ∧ WayAt w' (fun b => w.heap.size ≤ b) M cM n fl (lostF n (fl.map Fld.src))) ∧ Below w.heap.size w w'
/-- what Plan makes -/
def planR (q q' : Nat) (R : Option (List Fld)) : Option (List Fld) := if q = q' then R else none
end Go.Proofs.Ytoddjdajjmcliaa
set_option linter.unusedVariables false
namespace Go.Proofs.Ytoddjdajjmcliaa
open Go.RowKit Go.Mem Go.Sh Go.Maps Go.Val
set_option maxRecDepth 100000 in
set_option maxHeartbeats 16000000 in
theorem way_any (w : World) (A : Option Addr) (n c bc e y : Nat) (bad : Bool) (ad : Addr) (cn : Nat) (At : Option Addr) (ct q m : Nat) (I : List Nat) (A' : Option Addr) (n' c' bc' e' y' : Nat) (bad' : Bool) (ad' : Addr) (cn' : Nat) (At' : Option Addr) (ct' q' m' : Nat) (I' : List Nat) (R : Option (List Fld))
    (hp : PgX w A n c bc e y bad ad cn At ct q m I) (hq : PgX w A' n' c' bc' e' y' bad' ad' cn' At' ct' q' m' I') (hf : fldsF (pd y bad) (pd y' bad') (I.map nmF) (I.map tyF) (I'.map nmF) (I'.map tyF) = some R) :
    Calls Try.prog 19 #[.agg #[str [109], .int .i64 1, .slice none 0 0, .slice A n c, .slice none 0 0, .slice none 0 0, .slice none 0 0, .slice (some ⟨bc, 0, none⟩) 1 e], .agg #[str [109], .int .i64 1, .slice none 0 0, .slice A' n' c', .slice none 0 0, .slice none 0 0, .slice none 0 0, .slice (some ⟨bc', 0, none⟩) 1 e']] w (WayPost w m (planR q q' R)) := by
  obtain ⟨mk, hmk⟩ : ∃ mk, mk = 1 + q := ⟨_, rfl⟩
  obtain ⟨mk', hmk'⟩ : ∃ mk, mk = 1 + q' := ⟨_, rfl⟩
  have hact := hp.act
  unfold acell at hact
  rw [← hmk] at hact
  have CSA := fun W (hW : Below w.heap.size w W) => shActor_any W A' n' c' bc' e' y' bad' ad' cn' At' ct' q' m' I' (hq.below hW)
  rw [← hmk'] at CSA
  have hq2 := hp.q2
  have hq2' := hq.q2
  obtain ⟨ms, hms⟩ := msg_law (pd_mem hp.y12 bad) (pd_mem hq.y12 bad') (a := mk) (b := mk') ⟨by omega, by omega⟩ ⟨by omega, by omega⟩
  have HM := Lib.hid (And.intro hms (show (q = q') ↔ (mk = mk') from ⟨fun h => by omega, fun h => by omega⟩))
  have HMk := Lib.hid (show (1 ≤ mk ∧ mk ≤ 2) ∧ (1 ≤ mk' ∧ mk' ≤ 2) from ⟨⟨by omega, by omega⟩, ⟨by omega, by omega⟩⟩)
  have HP := Lib.hid hp
  have HQ := Lib.hid hq
  have HF := Lib.hid hf
  have hl1 := hp.len.2
  have hl2 := hq.len.2
  have HACT := Lib.hid hact
  have HCSA := Lib.hid CSA
  clear hp hq hf hact hmk hmk' hq2 hq2' CSA hms
  have d1 : ((m : Int) != (m : Int)) = false := by simp
  have d2 : ((m' : Int) != (m' : Int)) = false := by simp
  have d1' : (m != m) = false := by simp
  have d2' : (m' != m') = false := by simp
  go_enter Try.func19, Try.ntmps19
  go_upto_region 2 with (fail)
  obtain ⟨u1, hu1⟩ : ∃ u, u = w.alloc (.cells #[str [109], .int .i64 1, .slice none 0 0, .slice A n c, .slice none 0 0, .slice none 0 0, .slice none 0 0, .slice (some ⟨bc, 0, none⟩) 1 e] 29) := ⟨_, rfl⟩
  have zu1 : u1.heap.size = w.heap.size + 1 := by rw [hu1]; simp
  have hbu1 : Below w.heap.size w u1 := by rw [hu1]; exact (Below.refl _ _).alloc (Nat.le_refl _) _
  have fPB : Blk u1 (w.heap.size) 29 [str [109], .int .i64 1, .slice none 0 0, .slice A n c, .slice none 0 0, .slice none 0 0, .slice none 0 0, .slice (some ⟨bc, 0, none⟩) 1 e] := by rw [hu1]; have h := Blk.new w 29 [str [109], .int .i64 1, .slice none 0 0, .slice A n c, .slice none 0 0, .slice none 0 0, .slice none 0 0, .slice (some ⟨bc, 0, none⟩) 1 e]; exact h
  obtain ⟨u2, hu2⟩ : ∃ u, u = u1.alloc (.cells #[str [109], .int .i64 1, .slice none 0 0, .slice A' n' c', .slice none 0 0, .slice none 0 0, .slice none 0 0, .slice (some ⟨bc', 0, none⟩) 1 e'] 29) := ⟨_, rfl⟩
  have zu2 : u2.heap.size = w.heap.size + 1 + 1 := by rw [hu2]; simp [zu1]
  have hbu2 : Below w.heap.size w u2 := by rw [hu2]; exact hbu1.alloc hbu1.size _
  replace fPB := fPB.alloc (.cells #[str [109], .int .i64 1, .slice none 0 0, .slice A' n' c', .slice none 0 0, .slice none 0 0, .slice none 0 0, .slice (some ⟨bc', 0, none⟩) 1 e'] 29)
  rw [← hu2] at fPB
  have fQB : Blk u2 (w.heap.size + 1) 29 [str [109], .int .i64 1, .slice none 0 0, .slice A' n' c', .slice none 0 0, .slice none 0 0, .slice none 0 0, .slice (some ⟨bc', 0, none⟩) 1 e'] := by rw [hu2]; have h := Blk.new u1 29 [str [109], .int .i64 1, .slice none 0 0, .slice A' n' c', .slice none 0 0, .slice none 0 0, .slice none 0 0, .slice (some ⟨bc', 0, none⟩) 1 e']; rw [zu1] at h; exact h
  obtain ⟨u3, hu3⟩ : ∃ u, u = u2.alloc (.cells #[.slice none 0 0] 60) := ⟨_, rfl⟩
  have zu3 : u3.heap.size = w.heap.size + 1 + 1 + 1 := by rw [hu3]; simp [zu2]
  have hbu3 : Below w.heap.size w u3 := by rw [hu3]; exact hbu2.alloc hbu2.size _
  replace fPB := fPB.alloc (.cells #[.slice none 0 0] 60)
  rw [← hu3] at fPB
  replace fQB := fQB.alloc (.cells #[.slice none 0 0] 60)
  rw [← hu3] at fQB
  have fRB : Blk u3 (w.heap.size + 1 + 1) 60 [.slice none 0 0] := by rw [hu3]; have h := Blk.new u2 60 [.slice none 0 0]; rw [zu2] at h; exact h
  obtain ⟨u4, hu4⟩ : ∃ u, u = u3.alloc (.cells #[.slice none 0 0] 60) := ⟨_, rfl⟩
  have zu4 : u4.heap.size = w.heap.size + 1 + 1 + 1 + 1 := by rw [hu4]; simp [zu3]
  have hbu4 : Below w.heap.size w u4 := by rw [hu4]; exact hbu3.alloc hbu3.size _
  replace fPB := fPB.alloc (.cells #[.slice none 0 0] 60)
  rw [← hu4] at fPB
  replace fQB := fQB.alloc (.cells #[.slice none 0 0] 60)
  rw [← hu4] at fQB
  replace fRB := fRB.alloc (.cells #[.slice none 0 0] 60)
  rw [← hu4] at fRB
  have fOB : Blk u4 (w.heap.size + 1 + 1 + 1) 60 [.slice none 0 0] := by rw [hu4]; have h := Blk.new u3 60 [.slice none 0 0]; rw [zu3] at h; exact h
  rw [← hu1, ← hu2, ← hu3, ← hu4]
  obtain ⟨OB, zOB⟩ : ∃ b, b = w.heap.size + 1 + 1 + 1 := ⟨_, rfl⟩
  obtain ⟨RB, zRB⟩ : ∃ b, b = w.heap.size + 1 + 1 := ⟨_, rfl⟩
  obtain ⟨QB, zQB⟩ : ∃ b, b = w.heap.size + 1 := ⟨_, rfl⟩
  obtain ⟨PB, zPB⟩ : ∃ b, b = w.heap.size := ⟨_, rfl⟩
  rw [← zOB, ← zRB, ← zQB, ← zPB]
  rw [← zPB] at fPB
  rw [← zQB] at fQB
  rw [← zRB] at fRB
  rw [← zOB] at fOB
  clear hu1 hu2 hu3 hu4
  have HB := Lib.hid (And.intro hbu4 (And.intro fPB (And.intro fQB (And.intro fRB (And.intro fOB (show w.heap.size ≤ RB ∧ w.heap.size ≤ OB ∧ RB < OB ∧ OB < u4.heap.size ∧ RB < u4.heap.size from ⟨by omega, by omega, by omega, by omega, by omega⟩))))))
  have c7 := fPB.cell 7
  have lp := fPB.lt
  simp only [List.getElem?_cons_zero, List.getElem?_cons_succ] at c7
  clear fPB fQB fRB fOB zPB zQB zRB zOB zu1 zu2 zu3 zu4 hbu1 hbu2 hbu3 hbu4
  go_wp2_with (fail)
  generalize u4 = W4 at HB
  clear c7 lp
  go_loopw [16] (fun i wr => Hid ((i = .int .i64 0 ∧ wr = W4) ∨ (i = .int .i64 1 ∧ ∃ fl M cM, planR q q' R = some fl ∧ Hid (Below w.heap.size w wr ∧ Blk wr RB 60 [.slice none 0 0] ∧ Blk wr OB 60 [.slice M 1 cM] ∧ WayAt wr (fun b => OB < b) M cM m fl (lostF m (fl.map Fld.src))))) ) (fun i _ => 1 - (intOf i).toNat)
  case atStart => exact .inl ⟨rfl, rfl⟩
  case round =>
    rcases hrel.out with ⟨rfl, rfl⟩ | ⟨rfl, fl, M, cM, hR, hw⟩
    · clear hrel
      have fA := HACT.out.below HB.out.1 HACT.out.lt
      have a0 := fA.cell 0
      have a1 := fA.cell 1
      have a2 := fA.cell 2
      have a3 := fA.cell 3
      have a4 := fA.cell 4
      have a5 := fA.cell 5
      have a6 := fA.cell 6
      have a7 := fA.cell 7
      have a8 := fA.cell 8
      have a9 := fA.cell 9
      have a10 := fA.cell 10
      have a11 := fA.cell 11
      have a12 := fA.cell 12
      have a13 := fA.cell 13
      have la := fA.lt
      simp only [List.getElem?_cons_zero, List.getElem?_cons_succ] at a0 a1 a2 a3 a4 a5 a6 a7 a8 a9 a10 a11 a12 a13
      clear fA
      go_upto_region 5 with (fail)
      obtain ⟨W5, hW5⟩ : ∃ W5, W5 = wr.alloc (.cells #[str [65], .slice (some ad) m cn, .slice At m ct, .int .i64 (mk : Nat), str [], .slice none 0 0, .int .i64 1, .int .i64 0, .string ⟨#[]⟩, .slice none 0 0, .slice none 0 0, .slice none 0 0, .slice none 0 0, .int .i64 0] 40) := ⟨_, rfl⟩
      obtain ⟨AB, hAB⟩ : ∃ b, b = wr.heap.size := ⟨_, rfl⟩
      have hb5 : Below wr.heap.size wr W5 := by rw [hW5]; exact (Below.refl _ _).alloc (Nat.le_refl _) _
      have fAB : Blk W5 AB 40 [str [65], .slice (some ad) m cn, .slice At m ct, .int .i64 (mk : Nat), str [], .slice none 0 0, .int .i64 1, .int .i64 0, .string ⟨#[]⟩, .slice none 0 0, .slice none 0 0, .slice none 0 0, .slice none 0 0, .int .i64 0] := by rw [hW5, hAB]; exact Blk.new _ _ _
      rw [← hW5, ← hAB]
      have HOA := Lib.hid (show OB < AB by have := HB.out.2.2.2.2.2; omega)
      have H5 := Lib.hid (And.intro hb5 (And.intro fAB (HB.out.1.trans (hb5.mono HB.out.1.size))))
      have CA := Lib.hid (HCSA.out W5 H5.out.2.2)
      have a0 := fAB.cell 0
      have la := fAB.lt
      simp only [List.getElem?_cons_zero] at a0
      clear hW5 hAB hb5 fAB a1 a2 a3 a4 a5 a6 a7 a8 a9 a10 a11 a12 a13
      have fQ := HB.out.2.2.1.below H5.out.1 HB.out.2.2.1.lt
      have q0 := fQ.cell 0
      have q1 := fQ.cell 1
      have q2 := fQ.cell 2
      have q3 := fQ.cell 3
      have q4 := fQ.cell 4
      have q5 := fQ.cell 5
      have q6 := fQ.cell 6
      have q7 := fQ.cell 7
      have lq := fQ.lt
      simp only [List.getElem?_cons_zero, List.getElem?_cons_succ] at q0 q1 q2 q3 q4 q5 q6 q7
      clear fQ
      go_upto_region 6 with (go_at_call 33; refine CA.out.mono ?_; unfold ShAPost; rintro e w6 ⟨hb6, Bn, bn, Bt, bt, Bm, bm, rfl, hbody⟩; have H6 := Lib.hid (And.intro hb6 hbody); rw [show (bcell Bn m' bn Bt bt mk' Bm bm).toArray = #[str [65], .slice Bn m' bn, .slice Bt m' bt, .int .i64 (mk' : Nat), str [], .slice Bm 0 bm, .int .i64 0, .int .i64 0, .string ⟨#[]⟩, .slice none 0 0, .slice none 0 0, .slice none 0 0, .slice none 0 0, .int .i64 0] from rfl]; clear hb6 hbody)
      obtain ⟨W7, hW7⟩ : ∃ W7, W7 = w6.alloc (.cells #[str [65], .slice Bn m' bn, .slice Bt m' bt, .int .i64 (mk' : Nat), str [], .slice Bm 0 bm, .int .i64 0, .int .i64 0, .string ⟨#[]⟩, .slice none 0 0, .slice none 0 0, .slice none 0 0, .slice none 0 0, .int .i64 0] 40) := ⟨_, rfl⟩
      obtain ⟨BB, hBB⟩ : ∃ b, b = w6.heap.size := ⟨_, rfl⟩
      have hb7 : Below w6.heap.size w6 W7 := by rw [hW7]; exact (Below.refl _ _).alloc (Nat.le_refl _) _
      have fBB : Blk W7 BB 40 [str [65], .slice Bn m' bn, .slice Bt m' bt, .int .i64 (mk' : Nat), str [], .slice Bm 0 bm, .int .i64 0, .int .i64 0, .string ⟨#[]⟩, .slice none 0 0, .slice none 0 0, .slice none 0 0, .slice none 0 0, .int .i64 0] := by rw [hW7, hBB]; exact Blk.new _ _ _
      rw [← hW7, ← hBB]
      have hb57 : Below W5.heap.size W5 W7 := H6.out.1.trans (hb7.mono H6.out.1.size)
      have hb47 : Below wr.heap.size wr W7 := H5.out.1.trans (hb57.mono H5.out.1.size)
      have fAB := H5.out.2.1.below hb57 H5.out.2.1.lt
      have fPB := HB.out.2.1.below hb47 HB.out.2.1.lt
      have fQB := HB.out.2.2.1.below hb47 HB.out.2.2.1.lt
      have fRB := HB.out.2.2.2.1.below hb47 HB.out.2.2.2.1.lt
      have fOB := HB.out.2.2.2.2.1.below hb47 HB.out.2.2.2.2.1.lt
      obtain ⟨bo1, bo2, bo3, bo4⟩ := H6.out.2
      have s67 : Same (fun b => W5.heap.size ≤ b) w6 W7 := Same.of_below hb7 fun b _ hl => hl
      have HBO := Lib.hid (And.intro ((bo2.keep s67).imp (D' := Any) (by omega) fun _ _ _ => trivial) (And.intro ((bo3.keep s67).imp (D' := Any) fun _ _ _ => trivial) ((bo4.keep s67).imp (D' := Any) fun _ _ _ => trivial)))
      have hbw : Below w.heap.size w W7 := HB.out.1.trans (hb47.mono HB.out.1.size)
      have HP7 := Lib.hid (HP.out.below hbw)
      have HQ7 := Lib.hid (HQ.out.below hbw)
      have H7 := Lib.hid (And.intro fPB (And.intro fQB (And.intro fRB (And.intro fOB (And.intro fAB fBB)))))
      have HW7 := Lib.hid (And.intro hbw hb47)
      clear bo1 bo2 bo3 bo4 s67 hbw hb7 hb57 hb47 hW7 hBB fPB fQB fRB fOB fAB fBB a0 la lq q0 q1 q2 q3 q4 q5 q6 q7 CA
      have CS := Lib.hid (show Calls Try.prog 13 #[.agg #[str [109], .int .i64 1, .slice none 0 0, .slice A n c, .slice none 0 0, .slice none 0 0, .slice none 0 0, .slice (some ⟨bc, 0, none⟩) 1 e], .agg #[str [109], .int .i64 1, .slice none 0 0, .slice A' n' c', .slice none 0 0, .slice none 0 0, .slice none 0 0, .slice (some ⟨bc', 0, none⟩) 1 e'], .agg #[.int .i64 (mk : Nat), str [], .slice none 0 0], .agg #[.int .i64 (mk' : Nat), str [], .slice Bm 0 bm]] W7 (fun e w' => e = .returned (.bool (decide (mk = mk'))) ∧ Below W7.heap.size W7 w') from
        sameC_any 12 4 4 W7 ⟨A, n, c, some ⟨bc, 0, none⟩, 1, e⟩ (pd y bad) ⟨A', n', c', some ⟨bc', 0, none⟩, 1, e'⟩ (pd y' bad') (oneT mk) (oneT mk') none 0 0 Bm 0 bm (decide (mk = mk')) ms HP7.out.dts HQ7.out.dts ⟨rfl, rfl, by show mk ≤ 9; have := HMk.out.1; omega, by show ([] : Nm).length ≤ 1000; simp, 3, rfl, TsAt.nil⟩ HBO.out.2.2 HM.out.1)
      have CP := Lib.hid (show ∀ W, Below W7.heap.size W7 W → Calls Try.prog 34 #[.agg #[str [109], .int .i64 1, .slice none 0 0, .slice A n c, .slice none 0 0, .slice none 0 0, .slice none 0 0, .slice (some ⟨bc, 0, none⟩) 1 e], .agg #[str [109], .int .i64 1, .slice none 0 0, .slice A' n' c', .slice none 0 0, .slice none 0 0, .slice none 0 0, .slice (some ⟨bc', 0, none⟩) 1 e'], .agg #[str [65], .slice (some ad) m cn, .slice At m ct, .int .i64 (mk : Nat), str [], .slice none 0 0, .int .i64 1, .int .i64 0, .string ⟨#[]⟩, .slice none 0 0, .slice none 0 0, .slice none 0 0, .slice none 0 0, .int .i64 0], .agg #[str [65], .slice Bn m' bn, .slice Bt m' bt, .int .i64 (mk' : Nat), str [], .slice Bm 0 bm, .int .i64 0, .int .i64 0, .string ⟨#[]⟩, .slice none 0 0, .slice none 0 0, .slice none 0 0, .slice none 0 0, .int .i64 0]] W (PlanPost W m R) from fun W hW =>
        plan_any W ⟨A, n, c, some ⟨bc, 0, none⟩, 1, e⟩ ⟨A', n', c', some ⟨bc', 0, none⟩, 1, e'⟩ (pd y bad) (pd y' bad') ad m cn At ct mk Bn m' bn Bt bt mk' Bm bm (I.map nmF) (I'.map nmF) (I.map tyF) (I'.map tyF) R (HP7.out.dts.keep (Same.any hW)) (HQ7.out.dts.keep (Same.any hW)) (by have := HP.out.len; simp; omega) (by have := HQ.out.len; simp; omega) (HP7.out.nr.keep (Same.any hW)) (HBO.out.1.keep (Same.any hW)) (HP7.out.ts.keep (Same.any hW)) (HBO.out.2.1.keep (Same.any hW)) HF.out)
      have MK := Lib.hid (show ∀ w', Below W7.heap.size W7 w' → (Below W7.heap.size W7 w' ∧ w'.cell? ⟨PB, 0, none⟩ = some (str [109]) ∧ w'.cell? ⟨PB, 1, none⟩ = some (.int .i64 1) ∧ w'.cell? ⟨PB, 2, none⟩ = some (.slice none 0 0) ∧ w'.cell? ⟨PB, 3, none⟩ = some (.slice A n c) ∧ w'.cell? ⟨PB, 4, none⟩ = some (.slice none 0 0) ∧ w'.cell? ⟨PB, 5, none⟩ = some (.slice none 0 0) ∧ w'.cell? ⟨PB, 6, none⟩ = some (.slice none 0 0) ∧ w'.cell? ⟨PB, 7, none⟩ = some (.slice (some ⟨bc, 0, none⟩) 1 e) ∧ w'.cell? ⟨QB, 0, none⟩ = some (str [109]) ∧ w'.cell? ⟨QB, 1, none⟩ = some (.int .i64 1) ∧ w'.cell? ⟨QB, 2, none⟩ = some (.slice none 0 0) ∧ w'.cell? ⟨QB, 3, none⟩ = some (.slice A' n' c') ∧ w'.cell? ⟨QB, 4, none⟩ = some (.slice none 0 0) ∧ w'.cell? ⟨QB, 5, none⟩ = some (.slice none 0 0) ∧ w'.cell? ⟨QB, 6, none⟩ = some (.slice none 0 0) ∧ w'.cell? ⟨QB, 7, none⟩ = some (.slice (some ⟨bc', 0, none⟩) 1 e') ∧ w'.cell? ⟨RB, 0, none⟩ = some (.slice none 0 0) ∧ w'.cell? ⟨OB, 0, none⟩ = some (.slice none 0 0) ∧ w'.cell? ⟨AB, 0, none⟩ = some (str [65]) ∧ w'.cell? ⟨AB, 1, none⟩ = some (.slice (some ad) m cn) ∧ w'.cell? ⟨AB, 2, none⟩ = some (.slice At m ct) ∧ w'.cell? ⟨AB, 3, none⟩ = some (.int .i64 (mk : Nat)) ∧ w'.cell? ⟨AB, 4, none⟩ = some (str []) ∧ w'.cell? ⟨AB, 5, none⟩ = some (.slice none 0 0) ∧ w'.cell? ⟨AB, 6, none⟩ = some (.int .i64 1) ∧ w'.cell? ⟨AB, 7, none⟩ = some (.int .i64 0) ∧ w'.cell? ⟨AB, 8, none⟩ = some (.string ⟨#[]⟩) ∧ w'.cell? ⟨AB, 9, none⟩ = some (.slice none 0 0) ∧ w'.cell? ⟨AB, 10, none⟩ = some (.slice none 0 0) ∧ w'.cell? ⟨AB, 11, none⟩ = some (.slice none 0 0) ∧ w'.cell? ⟨AB, 12, none⟩ = some (.slice none 0 0) ∧ w'.cell? ⟨AB, 13, none⟩ = some (.int .i64 0) ∧ w'.cell? ⟨BB, 0, none⟩ = some (str [65]) ∧ w'.cell? ⟨BB, 1, none⟩ = some (.slice Bn m' bn) ∧ w'.cell? ⟨BB, 2, none⟩ = some (.slice Bt m' bt) ∧ w'.cell? ⟨BB, 3, none⟩ = some (.int .i64 (mk' : Nat)) ∧ w'.cell? ⟨BB, 4, none⟩ = some (str []) ∧ w'.cell? ⟨BB, 5, none⟩ = some (.slice Bm 0 bm) ∧ w'.cell? ⟨BB, 6, none⟩ = some (.int .i64 0) ∧ w'.cell? ⟨BB, 7, none⟩ = some (.int .i64 0) ∧ w'.cell? ⟨BB, 8, none⟩ = some (.string ⟨#[]⟩) ∧ w'.cell? ⟨BB, 9, none⟩ = some (.slice none 0 0) ∧ w'.cell? ⟨BB, 10, none⟩ = some (.slice none 0 0) ∧ w'.cell? ⟨BB, 11, none⟩ = some (.slice none 0 0) ∧ w'.cell? ⟨BB, 12, none⟩ = some (.slice none 0 0) ∧ w'.cell? ⟨BB, 13, none⟩ = some (.int .i64 0)) from fun w' h => ⟨h, (h.cell (p := ⟨PB, 0, none⟩) ((H7.out.1).lt)).trans ((H7.out.1).cell 0), (h.cell (p := ⟨PB, 1, none⟩) ((H7.out.1).lt)).trans ((H7.out.1).cell 1), (h.cell (p := ⟨PB, 2, none⟩) ((H7.out.1).lt)).trans ((H7.out.1).cell 2), (h.cell (p := ⟨PB, 3, none⟩) ((H7.out.1).lt)).trans ((H7.out.1).cell 3), (h.cell (p := ⟨PB, 4, none⟩) ((H7.out.1).lt)).trans ((H7.out.1).cell 4), (h.cell (p := ⟨PB, 5, none⟩) ((H7.out.1).lt)).trans ((H7.out.1).cell 5), (h.cell (p := ⟨PB, 6, none⟩) ((H7.out.1).lt)).trans ((H7.out.1).cell 6), (h.cell (p := ⟨PB, 7, none⟩) ((H7.out.1).lt)).trans ((H7.out.1).cell 7), (h.cell (p := ⟨QB, 0, none⟩) ((H7.out.2.1).lt)).trans ((H7.out.2.1).cell 0), (h.cell (p := ⟨QB, 1, none⟩) ((H7.out.2.1).lt)).trans ((H7.out.2.1).cell 1), (h.cell (p := ⟨QB, 2, none⟩) ((H7.out.2.1).lt)).trans ((H7.out.2.1).cell 2), (h.cell (p := ⟨QB, 3, none⟩) ((H7.out.2.1).lt)).trans ((H7.out.2.1).cell 3), (h.cell (p := ⟨QB, 4, none⟩) ((H7.out.2.1).lt)).trans ((H7.out.2.1).cell 4), (h.cell (p := ⟨QB, 5, none⟩) ((H7.out.2.1).lt)).trans ((H7.out.2.1).cell 5), (h.cell (p := ⟨QB, 6, none⟩) ((H7.out.2.1).lt)).trans ((H7.out.2.1).cell 6), (h.cell (p := ⟨QB, 7, none⟩) ((H7.out.2.1).lt)).trans ((H7.out.2.1).cell 7), (h.cell (p := ⟨RB, 0, none⟩) ((H7.out.2.2.1).lt)).trans ((H7.out.2.2.1).cell 0), (h.cell (p := ⟨OB, 0, none⟩) ((H7.out.2.2.2.1).lt)).trans ((H7.out.2.2.2.1).cell 0), (h.cell (p := ⟨AB, 0, none⟩) ((H7.out.2.2.2.2.1).lt)).trans ((H7.out.2.2.2.2.1).cell 0), (h.cell (p := ⟨AB, 1, none⟩) ((H7.out.2.2.2.2.1).lt)).trans ((H7.out.2.2.2.2.1).cell 1), (h.cell (p := ⟨AB, 2, none⟩) ((H7.out.2.2.2.2.1).lt)).trans ((H7.out.2.2.2.2.1).cell 2), (h.cell (p := ⟨AB, 3, none⟩) ((H7.out.2.2.2.2.1).lt)).trans ((H7.out.2.2.2.2.1).cell 3), (h.cell (p := ⟨AB, 4, none⟩) ((H7.out.2.2.2.2.1).lt)).trans ((H7.out.2.2.2.2.1).cell 4), (h.cell (p := ⟨AB, 5, none⟩) ((H7.out.2.2.2.2.1).lt)).trans ((H7.out.2.2.2.2.1).cell 5), (h.cell (p := ⟨AB, 6, none⟩) ((H7.out.2.2.2.2.1).lt)).trans ((H7.out.2.2.2.2.1).cell 6), (h.cell (p := ⟨AB, 7, none⟩) ((H7.out.2.2.2.2.1).lt)).trans ((H7.out.2.2.2.2.1).cell 7), (h.cell (p := ⟨AB, 8, none⟩) ((H7.out.2.2.2.2.1).lt)).trans ((H7.out.2.2.2.2.1).cell 8), (h.cell (p := ⟨AB, 9, none⟩) ((H7.out.2.2.2.2.1).lt)).trans ((H7.out.2.2.2.2.1).cell 9), (h.cell (p := ⟨AB, 10, none⟩) ((H7.out.2.2.2.2.1).lt)).trans ((H7.out.2.2.2.2.1).cell 10), (h.cell (p := ⟨AB, 11, none⟩) ((H7.out.2.2.2.2.1).lt)).trans ((H7.out.2.2.2.2.1).cell 11), (h.cell (p := ⟨AB, 12, none⟩) ((H7.out.2.2.2.2.1).lt)).trans ((H7.out.2.2.2.2.1).cell 12), (h.cell (p := ⟨AB, 13, none⟩) ((H7.out.2.2.2.2.1).lt)).trans ((H7.out.2.2.2.2.1).cell 13), (h.cell (p := ⟨BB, 0, none⟩) ((H7.out.2.2.2.2.2).lt)).trans ((H7.out.2.2.2.2.2).cell 0), (h.cell (p := ⟨BB, 1, none⟩) ((H7.out.2.2.2.2.2).lt)).trans ((H7.out.2.2.2.2.2).cell 1), (h.cell (p := ⟨BB, 2, none⟩) ((H7.out.2.2.2.2.2).lt)).trans ((H7.out.2.2.2.2.2).cell 2), (h.cell (p := ⟨BB, 3, none⟩) ((H7.out.2.2.2.2.2).lt)).trans ((H7.out.2.2.2.2.2).cell 3), (h.cell (p := ⟨BB, 4, none⟩) ((H7.out.2.2.2.2.2).lt)).trans ((H7.out.2.2.2.2.2).cell 4), (h.cell (p := ⟨BB, 5, none⟩) ((H7.out.2.2.2.2.2).lt)).trans ((H7.out.2.2.2.2.2).cell 5), (h.cell (p := ⟨BB, 6, none⟩) ((H7.out.2.2.2.2.2).lt)).trans ((H7.out.2.2.2.2.2).cell 6), (h.cell (p := ⟨BB, 7, none⟩) ((H7.out.2.2.2.2.2).lt)).trans ((H7.out.2.2.2.2.2).cell 7), (h.cell (p := ⟨BB, 8, none⟩) ((H7.out.2.2.2.2.2).lt)).trans ((H7.out.2.2.2.2.2).cell 8), (h.cell (p := ⟨BB, 9, none⟩) ((H7.out.2.2.2.2.2).lt)).trans ((H7.out.2.2.2.2.2).cell 9), (h.cell (p := ⟨BB, 10, none⟩) ((H7.out.2.2.2.2.2).lt)).trans ((H7.out.2.2.2.2.2).cell 10), (h.cell (p := ⟨BB, 11, none⟩) ((H7.out.2.2.2.2.2).lt)).trans ((H7.out.2.2.2.2.2).cell 11), (h.cell (p := ⟨BB, 12, none⟩) ((H7.out.2.2.2.2.2).lt)).trans ((H7.out.2.2.2.2.2).cell 12), (h.cell (p := ⟨BB, 13, none⟩) ((H7.out.2.2.2.2.2).lt)).trans ((H7.out.2.2.2.2.2).cell 13)⟩)
      obtain ⟨hbg, g0, g1, g2, g3, g4, g5, g6, g7, g8, g9, g10, g11, g12, g13, g14, g15, g16, g17, g18, g19, g20, g21, g22, g23, g24, g25, g26, g27, g28, g29, g30, g31, g32, g33, g34, g35, g36, g37, g38, g39, g40, g41, g42, g43, g44, g45⟩ := MK.out W7 (Below.refl _ _)
      have lR := H7.out.2.2.1.lt
      have zR := H7.out.2.2.1.frozen 0
      generalize hr : decide (mk = mk') = r at CS
      have HRR := Lib.hid hr
      clear hr
      cases r with
      | false =>
        go_wp2_with (go_at_call 13; refine CS.out.mono ?_; rintro e w8 ⟨rfl, hbn⟩; have HBN := Lib.hid hbn; clear hbg g0 g1 g2 g3 g4 g5 g6 g7 g8 g9 g10 g11 g12 g13 g14 g15 g16 g17 g18 g19 g20 g21 g22 g23 g24 g25 g26 g27 g28 g29 g30 g31 g32 g33 g34 g35 g36 g37 g38 g39 g40 g41 g42 g43 g44 g45 lR zR; obtain ⟨hbh, h0, h1, h2, h3, h4, h5, h6, h7, h8, h9, h10, h11, h12, h13, h14, h15, h16, h17, h18, h19, h20, h21, h22, h23, h24, h25, h26, h27, h28, h29, h30, h31, h32, h33, h34, h35, h36, h37, h38, h39, h40, h41, h42, h43, h44, h45⟩ := MK.out _ hbn; have lR := (H7.out.2.2.1.below HBN.out H7.out.2.2.1.lt).lt; have zR := (H7.out.2.2.1.below HBN.out H7.out.2.2.1.lt).frozen 0; clear hbn)
        have hB := (H7.out.2.2.1.below HBN.out H7.out.2.2.1.lt).put 0 (.slice none 0 0)
        have hbe := (HW7.out.1.trans (HBN.out.mono HW7.out.1.size)).setCell (p := ⟨RB, 0, none⟩) HB.out.2.2.2.2.2.1 (.slice none 0 0)
        refine ret_blk_tmp rfl rfl hB Try.underlying60 (by kernel_rfl) rfl ?_
        have hne : ¬ q = q' := fun h => by have h1 := HM.out.2.1 h; have h2 := HRR.out; simp [h1] at h2
        unfold planR
        rw [if_neg hne]
        exact ⟨rfl, hbe⟩
      | true =>
        have hqq : q = q' := HM.out.2.2 (by have h2 := HRR.out; simpa using h2)
        have hpR : planR q q' R = R := by unfold planR; rw [if_pos hqq]
        have HPR := Lib.hid hpR
        clear hqq hpR
        cases R with
        | none =>
          go_wp2_with (first
            | (go_at_call 13; refine CS.out.mono ?_; rintro e w8 ⟨rfl, hbn⟩; have HBN := Lib.hid hbn; clear hbg g0 g1 g2 g3 g4 g5 g6 g7 g8 g9 g10 g11 g12 g13 g14 g15 g16 g17 g18 g19 g20 g21 g22 g23 g24 g25 g26 g27 g28 g29 g30 g31 g32 g33 g34 g35 g36 g37 g38 g39 g40 g41 g42 g43 g44 g45 lR zR; obtain ⟨hbh, h0, h1, h2, h3, h4, h5, h6, h7, h8, h9, h10, h11, h12, h13, h14, h15, h16, h17, h18, h19, h20, h21, h22, h23, h24, h25, h26, h27, h28, h29, h30, h31, h32, h33, h34, h35, h36, h37, h38, h39, h40, h41, h42, h43, h44, h45⟩ := MK.out _ hbn; clear hbn)
            | (go_at_call 34; refine (CP.out _ HBN.out).mono ?_; unfold PlanPost; rintro e w9 ⟨rfl, hb9⟩; have hbn2 := below_nextR hb9 HBN.out; have HBN2 := Lib.hid hbn2; clear hbh h0 h1 h2 h3 h4 h5 h6 h7 h8 h9 h10 h11 h12 h13 h14 h15 h16 h17 h18 h19 h20 h21 h22 h23 h24 h25 h26 h27 h28 h29 h30 h31 h32 h33 h34 h35 h36 h37 h38 h39 h40 h41 h42 h43 h44 h45; obtain ⟨hbk, k0, k1, k2, k3, k4, k5, k6, k7, k8, k9, k10, k11, k12, k13, k14, k15, k16, k17, k18, k19, k20, k21, k22, k23, k24, k25, k26, k27, k28, k29, k30, k31, k32, k33, k34, k35, k36, k37, k38, k39, k40, k41, k42, k43, k44, k45⟩ := MK.out _ hbn2; have lR := (H7.out.2.2.1.below HBN2.out H7.out.2.2.1.lt).lt; have zR := (H7.out.2.2.1.below HBN2.out H7.out.2.2.1.lt).frozen 0; clear hbn2 hb9))
          have hB := ((H7.out.2.2.1.below HBN2.out H7.out.2.2.1.lt).put 0 (.slice none 0 0)).alloc (.cells #[.string ⟨#[]⟩, .int .i64 0, .slice none 0 0, .slice none 0 0] 99)
          have hbe0 := (HW7.out.1.trans (HBN2.out.mono HW7.out.1.size)).setCell (p := ⟨RB, 0, none⟩) HB.out.2.2.2.2.2.1 (.slice none 0 0)
          have hbe := below_allocR hbe0 (.cells #[.string ⟨#[]⟩, .int .i64 0, .slice none 0 0, .slice none 0 0] 99)
          refine ret_blk_tmp rfl rfl hB Try.underlying60 (by kernel_rfl) rfl ?_
          rw [HPR.out]
          exact ⟨rfl, hbe⟩
        | some fl =>
          go_wp2_with (first
            | (go_at_call 13; refine CS.out.mono ?_; rintro e w8 ⟨rfl, hbn⟩; have HBN := Lib.hid hbn; clear hbg g0 g1 g2 g3 g4 g5 g6 g7 g8 g9 g10 g11 g12 g13 g14 g15 g16 g17 g18 g19 g20 g21 g22 g23 g24 g25 g26 g27 g28 g29 g30 g31 g32 g33 g34 g35 g36 g37 g38 g39 g40 g41 g42 g43 g44 g45 lR zR; obtain ⟨hbh, h0, h1, h2, h3, h4, h5, h6, h7, h8, h9, h10, h11, h12, h13, h14, h15, h16, h17, h18, h19, h20, h21, h22, h23, h24, h25, h26, h27, h28, h29, h30, h31, h32, h33, h34, h35, h36, h37, h38, h39, h40, h41, h42, h43, h44, h45⟩ := MK.out _ hbn; clear hbn)
            | (go_at_call 34; refine (CP.out _ HBN.out).mono ?_; unfold PlanPost; rintro e w9 ⟨⟨F, cF, Ls, cL, rfl, hmv⟩, hb9⟩; have hs9 := HBN.out.size; have HMV := Lib.hid (hmv.imp (D' := fun b => W7.heap.size ≤ b) fun b hb _ => Nat.le_trans hs9 hb); have hbn2 := below_nextR hb9 HBN.out; have HBN2 := Lib.hid hbn2; clear hbh h0 h1 h2 h3 h4 h5 h6 h7 h8 h9 h10 h11 h12 h13 h14 h15 h16 h17 h18 h19 h20 h21 h22 h23 h24 h25 h26 h27 h28 h29 h30 h31 h32 h33 h34 h35 h36 h37 h38 h39 h40 h41 h42 h43 h44 h45; obtain ⟨hbk, k0, k1, k2, k3, k4, k5, k6, k7, k8, k9, k10, k11, k12, k13, k14, k15, k16, k17, k18, k19, k20, k21, k22, k23, k24, k25, k26, k27, k28, k29, k30, k31, k32, k33, k34, k35, k36, k37, k38, k39, k40, k41, k42, k43, k44, k45⟩ := MK.out _ hbn2; have lO := (H7.out.2.2.2.1.below HBN2.out H7.out.2.2.2.1.lt).lt; have zO := (H7.out.2.2.2.1.below HBN2.out H7.out.2.2.2.1.lt).frozen 0; clear hbn2 hb9 hmv hs9)
            | (at_builtin; refine app_Mv _ rfl (.tmp 72) (.tmp 74) rfl (World.ownsRow_nil _ (w9.heap.size + 1) _ _) rfl (reads_new2 w9 (.cells #[str [65], .int .i64 (m : Nat), .slice F fl.length cF, .slice Ls (lostF m (fl.map Fld.src)).length cL] 99) [str [65], .int .i64 (m : Nat), .slice F fl.length cF, .slice Ls (lostF m (fl.map Fld.src)).length cL] 4 1 99 Any trivial rfl) rfl (by simp [Value.oneCell']) (by omega) (by simp) ?_; intro v10 w10 hown10 hg10 hat10; obtain ⟨M, cM, rfl, hnc10⟩ := own_form hown10; have h10 : Below W7.heap.size W7 w10 := (below_allocR (below_allocR HBN2.out (.cells #[str [65], .int .i64 (m : Nat), .slice F fl.length cF, .slice Ls (lostF m (fl.map Fld.src)).length cL] 99)) (.cells #[str [65], .int .i64 (m : Nat), .slice F fl.length cF, .slice Ls (lostF m (fl.map Fld.src)).length cL] 99)).grown hg10 (by have := HBN2.out.size; simp; omega) (fun k hk => by simp [Value.ownBlock] at hk); have y0 := (H7.out.2.2.2.1.below h10 H7.out.2.2.2.1.lt).cell 0; have fy0 := (H7.out.2.2.2.1.below h10 H7.out.2.2.2.1.lt).frozen 0; have lO10 := (H7.out.2.2.2.1.below h10 H7.out.2.2.2.1.lt).lt; simp only [List.getElem?_cons_zero] at y0))
          have hO := HB.out.2.2.2.2.2
          have hOw := HOA.out
          have hO7 : OB < W7.heap.size := H7.out.2.2.2.1.lt
          have fO := (H7.out.2.2.2.1.below h10 H7.out.2.2.2.1.lt).put 0 (.slice M (0 + 1) cM)
          have fR := (H7.out.2.2.1.below h10 H7.out.2.2.1.lt).far (p := ⟨OB, 0, none⟩) (by show RB ≠ OB; omega) (.slice M (0 + 1) cM)
          have hbe := (HW7.out.1.trans (h10.mono HW7.out.1.size)).setCell (p := ⟨OB, 0, none⟩) hO.2.1 (.slice M (0 + 1) cM)
          have hf : ∀ b, b ≠ OB → (w10.setCell ⟨OB, 0, none⟩ (.slice M (0 + 1) cM)).heap[b]? = w10.heap[b]? := fun b hb => Below.heap_setCell _ _ _ _ hb
          obtain ⟨l1, l2, l3⟩ := own_reads (by omega) hown10
          have hs9 := HBN2.out.size
          have hmv : MoveAt (w10.setCell ⟨OB, 0, none⟩ (.slice M (0 + 1) cM)) (fun b => OB < b) F fl.length cF Ls (lostF m (fl.map Fld.src)).length cL fl (lostF m (fl.map Fld.src)) :=
            (((HMV.out.keep (((Same.alloc _ _ _).trans (by simp) (Same.alloc _ _ _)).trans (by simp; omega) (Same.of_grown hg10 fun b _ _ => by simp [Value.ownBlock]))).keep (fun b hb _ => hf b (by have h1 : W7.heap.size ≤ b := hb; omega)))).imp fun b hb _ => by have h1 : W7.heap.size ≤ b := hb; show OB < b; omega
          refine ⟨.inr ⟨by go_num, fl, M, cM, HPR.out, hbe, fR, fO, F, cF, Ls, cL, ?_, ⟨l1, l2⟩, hmv⟩, by simp [intOf]⟩
          exact ((l3.keep fun b hb _ => hf b (by omega)).imp (by omega) fun b hb _ => by omega)
    · have fO := hw.out.2.2.1
      have fR := hw.out.2.1
      have o0 := fO.cell 0
      have r0 := fR.cell 0
      have z0 := fR.frozen 0
      have lO := fO.lt
      have lR := fR.lt
      simp only [List.getElem?_cons_zero] at o0 r0
      clear fO fR hrel
      have HRf := Lib.hid hR
      clear hR
      go_wp2_with (fail)
      have hB := hw.out.2.1.put 0 (.slice M 1 cM)
      have hbe := hw.out.1.setCell (p := ⟨RB, 0, none⟩) HB.out.2.2.2.2.2.1 (.slice M 1 cM)
      refine ret_blk_tmp rfl rfl hB Try.underlying60 (by kernel_rfl) rfl ?_
      rw [HRf.out]
      have hO := HB.out.2.2.2.2.2
      refine ⟨⟨M, cM, rfl, ?_⟩, hbe⟩
      exact (hw.out.2.2.2.keep fun b hb _ => Below.heap_setCell _ _ _ _ (by have h1 : OB < b := hb; show b ≠ RB; omega)).imp fun b hb _ => by have h1 : OB < b := hb; omega
end Go.Proofs.Ytoddjdajjmcliaa
