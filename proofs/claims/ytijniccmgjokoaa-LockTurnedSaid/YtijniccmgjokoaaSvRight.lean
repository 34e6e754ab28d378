/- Contract of solve.Right. -/
import Derived.Test.YtijniccmgjokoaaSvRight0
import Derived.Test.YtijniccmgjokoaaRightLaw
import Derived.Test.YtijniccmgjokoaaSvBest
set_option linter.unusedVariables false
namespace Go.Sv
open Go.RowKit Go.Mem
/-- names strictly rise -/
def Asc (l : List Pk) : Prop := ∀ i (h : i + 1 < l.length), (l[i]).1 < (l[i + 1]).1
def RightP (ms : List Md) (root : List Us) (picks : List Pk) : Prop := Asc picks ∧ ∃ re, rightGo ms picks (root.length + 6 * picks.length) root [] = some re ∧ re.length = picks.length
def mapLen (w : World) (b : Nat) : Nat := match w.heap[b]? with
  | some (.map es _) => es.size
  | _ => 0
theorem MapOf.mapLen {α : Type} {enc : α → Value} {ok : α → Prop} {w : World} {b : Nat} {l : List (α × Value)} (h : MapOf enc ok w b l) : Sv.mapLen w b = l.length := by
  obtain ⟨es, clock, hb, _, he, _⟩ := h
  unfold Sv.mapLen
  rw [hb]
  have := congrArg List.length he
  simpa using this
def vlen : Value → Nat
  | .slice _ n _ => n
  | _ => 0
def tt (re : List Nm) : List (Nm × Value) := re.map fun n => (n, .bool true)
theorem tt_get (re : List Nm) (n : Nm) : (mget (tt re) n).getD (.bool false) = .bool (decide (n ∈ re)) := by
  induction re with
  | nil => rfl
  | cons a r ih =>
    unfold tt at ih ⊢
    rw [List.map_cons, mget_cons]
    by_cases h : a = n
    · subst h
      simp
    · simp only [h, if_false]
      rw [ih]
      have h2 : ¬ n = a := fun e => h e.symm
      simp [h2]
theorem tt_put (re : List Nm) (n : Nm) (h : n ∉ re) : mput (tt re) n (.bool true) = tt (re ++ [n]) := by
  unfold mput
  have hn : mget (tt re) n = none := mget_none.2 fun p hp => by
    obtain ⟨q, hq, rfl⟩ := List.mem_map.1 hp
    exact fun e => h (e ▸ hq)
  rw [hn]
  simp [tt]
end Go.Sv
namespace Go.Proofs.Ytijniccmgjokoaa
open Go.RowKit Go.Mem Go.Sv Go.Maps
theorem leq_nm (x y : Nm) : (Op.bytesLess y x || y == x) = !decide (x < y) := by
  rw [bytesLess_eq, Bool.eq_iff_iff]
  simp only [Bool.or_eq_true, decide_eq_true_eq, beq_iff_eq, Bool.not_eq_true', decide_eq_false_iff_not]
  constructor
  · rintro (h | rfl)
    · exact List.lt_asymm h
    · exact List.lt_irrefl _
  · intro h
    rcases List.le_iff_lt_or_eq.1 (List.not_lt.1 h) with h | h
    · exact .inl h
    · exact .inr h
theorem zero_bool : ∀ w : World, (zeroValue 4).run Try.prog w = .ok (.bool false) w := fun _ => by kernel_rfl
def RightPost (w : World) (ms : List Md) (root : List Us) (picks : List Pk) : Ending → World → Prop := fun e w' => ∃ b, e = .returned (.bool b) ∧ (b = true ↔ RightP ms root picks) ∧ Below w.heap.size w w'
/-- while Right asks -/
structure AskAt (w wr : World) (M : Nat) (ms : List Md) (picks : List Pk) (root : List Us) (v : Value) (q : List Us) (re : List Nm) (k : Nat) : Prop where
  qu : Seg wr 47 3 v q.length (uss q)
  qb : ∀ b, v.ownBlock = some b → w.heap.size ≤ b
  mp : MapOf str okS wr M (tt re)
  gr : GrownIn (fun b => b = M) w wr
  eq : rightGo ms picks (root.length + 6 * picks.length) root [] = rightGo ms picks k q re
  le : q.length + 6 * (picks.length - re.length) ≤ k
  nd : re.Nodup
  sb : ∀ n ∈ re, n ∈ picks.map (·.1)
  ok : ∀ u ∈ q, UsOk u
  kb : k ≤ 7000
section
variable {w wr wr' : World} {M : Nat} {ms : List Md} {picks : List Pk} {root : List Us} {v : Value} {q : List Us} {re : List Nm} {k : Nat}
theorem AskAt.below (h : AskAt w wr M ms picks root v q re k) (hb : Below wr.heap.size wr wr') : AskAt w wr' M ms picks root v q re k :=
  ⟨h.qu.keep fun b hb' => hb.block b (h.qu.lt b hb'), h.qb, h.mp.below hb, h.gr.trans (GrownIn.of_below (own := fun b => b = M) hb) (fun _ h => .inl h), h.eq, h.le, h.nd, h.sb, h.ok, h.kb⟩
theorem not_right (h : rightGo ms picks (root.length + 6 * picks.length) root [] = none) : ¬ RightP ms root picks := by
  rintro ⟨_, re, h1, _⟩
  rw [h] at h1
  cases h1
theorem ask_none {u : Us} (h : AskAt w wr M ms picks root v (u :: q) re k) (hm : metBy ms picks u = none) : ¬ RightP ms root picks := by
  apply not_right
  rw [h.eq]
  cases k with
  | zero => rfl
  | succ k => rw [rightGo, hm]
theorem AskAt.one {u : Us} (h : AskAt w wr M ms picks root v (u :: q) re k) : ∃ k', k = k' + 1 := by
  cases k with
  | zero => have := h.le; simp at this
  | succ k => exact ⟨k, rfl⟩
theorem re_le (hnd : re.Nodup) (hs : ∀ n ∈ re, n ∈ picks.map (·.1)) : re.length ≤ picks.length := by
  have := hnd.length_le_of_subset hs
  simpa using this
end
set_option maxRecDepth 100000 in
set_option maxHeartbeats 4000000 in
theorem right_any (w : World) (A1 : Option Addr) (n1 c1 : Nat) (ms : List Md) (Ar : Option Addr) (nr cr : Nat) (root : List Us) (A2 : Option Addr) (n2 c2 : Nat) (picks : List Pk)
    (h1 : MdsAt w Any A1 n1 c1 ms) (hm : MsOk ms) (h2 : Reads w Any 3 Ar nr (uss root)) (hnr : nr = root.length) (hr5 : nr ≤ 5) (hroot : ∀ u ∈ root, UsOk u) (h3 : Reads w Any 2 A2 n2 (pks picks)) (hn2 : n2 = picks.length) (hf : n2 ≤ 1000) :
    Calls Try.prog 21 #[.slice A1 n1 c1, .slice Ar nr cr, .slice A2 n2 c2] w (RightPost w ms root picks) := by
  have hm1 := @run_makeMap Try.prog
  have K1 := Lib.hid (fun w1 (hb : Below w.heap.size w w1) => check_any A1 n1 c1 ms w1 (h1.keep (Same.any hb)) hm)
  have K2 := Lib.hid (fun w1 (hb : Below w.heap.size w w1) => wants_any Ar nr cr root w1 (h2.keep (Same.any hb)) hnr hr5 hroot)
  have HH := Lib.hid (And.intro h1 (And.intro h2 h3))
  have HN := Lib.hid (And.intro hnr (And.intro hn2 hroot))
  have HM := Lib.hid hm
  obtain ⟨T, hT⟩ : ∃ T, T = w.heap.size := ⟨_, rfl⟩
  obtain ⟨W, hW⟩ : ∃ W, W = w.alloc (.cells #[.slice A2 n2 c2] 23) := ⟨_, rfl⟩
  have hbk : Blk W T 23 [.slice A2 n2 c2] := by rw [hW, hT]; exact Blk.new w _ _
  have hbW : Below w.heap.size w W := by rw [hW]; exact (Below.refl _ _).alloc (Nat.le_refl _) _
  have HBW := Lib.hid (And.intro hbk hbW)
  clear h1 hm h2 hnr hroot h3 hn2 hbk hbW
  go_enter Try.func21, Try.ntmps21
  go_upto_region 1 with (fail)
  rw [← hW, ← hT]
  clear hW hT
  go_wp2_with (fail)
  refine (K1.out W HBW.out.2).mono ?_
  rintro e w1 ⟨rfl, hb1⟩
  have HB1 := Lib.hid (HBW.out.2.trans (hb1.mono HBW.out.2.size))
  have HT1 := Lib.hid (HBW.out.1.below hb1 HBW.out.1.lt)
  clear hb1
  go_wp2_with (fail)
  refine (K2.out w1 HB1.out).mono ?_
  rintro e w2 ⟨rfl, hb2⟩
  have HB2 := Lib.hid (HB1.out.trans (hb2.mono HB1.out.size))
  have HT2 := Lib.hid (HT1.out.below hb2 HT1.out.lt)
  clear hb2
  go_wp2_with (fail)
  go_loopw [7] (fun v wr => ∃ i : Nat, v = .int .i64 ((i + 1 : Nat)) ∧ (i + 1 ≤ n2 ∨ i = 0) ∧ Hid (Below w2.heap.size w2 wr ∧ ∀ j (h : j + 1 < picks.length), j < i → (picks[j]).1 < (picks[j + 1]).1)) (fun v _ => n2 + 1 - (intOf v).toNat)
  case atStart => exact ⟨0, rfl, .inr rfl, Below.refl _ _, fun j h hj => by omega⟩
  case round =>
    obtain ⟨i, rfl, hi, HI⟩ := hrel
    have hbT := HT2.out.below HI.out.1 HT2.out.lt
    have t0 := hbT.cell 0
    have lT := hbT.lt
    simp only [List.getElem?_cons_zero] at t0
    by_cases hlt : i + 1 < n2
    · have hrd := (HH.out.2.2.keep (Same.any HB2.out)).keep (Same.any HI.out.1)
      obtain ⟨b1, o1, rfl, _, p0, _⟩ := pks_cells hrd hlt HN.out.2.1
      obtain ⟨b2, o2, hbo, _, q0, _⟩ := pks_cells hrd (show i < n2 by omega) HN.out.2.1
      injection hbo with hbo
      injection hbo with hb hoo
      subst hb hoo
      have i0 : (0 : Int) ≤ ((i + 1 : Nat) : Int) := by omega
      have i1 : ((i + 1 : Nat) : Int) < (n2 : Int) := by omega
      have i2 : (0 : Int) ≤ (i : Int) := by omega
      have i3 : (i : Int) < (n2 : Int) := by omega
      have ew : IntKind.i64.wrap (((i + 1 : Nat) : Int) - 1) = (i : Int) := (IntWalk.i64_in _ (by omega)).trans (by omega)
      have hl1 : i + 1 < picks.length := by have := HN.out.2.1; omega
      have hnew : ∀ b : Bool, decide ((picks[i]'(by omega)).1 < (picks[i + 1]'hl1).1) = b → (b = true → ∀ j (h : j + 1 < picks.length), j < i + 1 → (picks[j]).1 < (picks[j + 1]).1) ∧ (b = false → ¬ Asc picks) := by
        intro b hb
        constructor
        · rintro rfl j h hj
          rcases Nat.lt_or_ge j i with h2 | h2
          · exact HI.out.2 j h h2
          · obtain rfl : j = i := by omega
            exact of_decide_eq_true hb
        · rintro rfl ha
          exact of_decide_eq_false hb (ha i hl1)
      generalize hx : (picks[i]'(by omega)).1 = x at q0 hnew
      generalize hy : (picks[i + 1]'hl1).1 = y at p0 hnew
      have HNw := Lib.hid hnew
      clear hnew hrd hbT hx hy
      go_upto_region 6 with (fail)
      go_region
      all_goals
        have lq := leq_nm x y
        rcases hb : decide (x < y) with _ | _
        · rw [hb] at lq
          rw [lq]
          have HNo := Lib.hid ((HNw.out _ hb).2 rfl)
          have HBD := Lib.hid (show Below w.heap.size w wr.drew from HB2.out.trans (Below.mono ⟨HI.out.1.os, HI.out.1.tape, HI.out.1.output, HI.out.1.size, HI.out.1.block⟩ HB2.out.size))
          clear lq hb
          go_wp2_with (fail)
          go_ret
          exact ⟨false, rfl, ⟨fun h => (by cases h), fun h => absurd h.1 HNo.out⟩, HBD.out⟩
        · rw [hb] at lq
          rw [lq]
          have fin : Hid (Below w2.heap.size w2 wr.drew ∧ ∀ j (h : j + 1 < picks.length), j < i + 1 → (picks[j]).1 < (picks[j + 1]).1) := ⟨⟨HI.out.1.os, HI.out.1.tape, HI.out.1.output, HI.out.1.size, HI.out.1.block⟩, (HNw.out _ hb).1 rfl⟩
          clear lq hb
          go_wp2_with (fail)
          exact ⟨⟨i + 1, by go_num, .inl (by omega), fin⟩, by simp [intOf]; omega⟩
    · have hasc : Asc picks := fun j h => HI.out.2 j h (by have := HN.out.2.1; omega)
      have HAsc := Lib.hid hasc
      obtain ⟨M, hM⟩ : ∃ M, M = wr.heap.size := ⟨_, rfl⟩
      obtain ⟨W3, hW3⟩ : ∃ W3, W3 = wr.alloc (.map #[] 0) := ⟨_, rfl⟩
      have hb3 : Below wr.heap.size wr W3 := by rw [hW3]; exact (Below.refl _ _).alloc (Nat.le_refl _) _
      have hmp3 : MapOf str okS W3 M (tt []) := by rw [hW3, hM]; exact MapOf.new wr
      have hb23 : Below w2.heap.size w2 W3 := HI.out.1.trans (hb3.mono HI.out.1.size)
      have CL := Lib.hid (clone_us Ar nr cr root Any W3 ((HH.out.2.1.keep (Same.any HB2.out)).keep (Same.any hb23)) (by have := HN.out; omega))
      have H3 := Lib.hid (And.intro hb23 hmp3)
      have HMM := Lib.hid (show w2.heap.size ≤ M by rw [hM]; exact HI.out.1.size)
      clear hasc hb3 hmp3 hb23
      go_upto_region 9 with (fail)
      rw [← hW3, ← hM]
      clear hW3 hM t0 lT
      go_wp2_with (fail)
      refine CL.out.mono ?_
      rintro e w4 ⟨A4, c4, rfl, hown4, hb4⟩
      have hqu : Seg w4 47 3 (.slice A4 nr c4) root.length (uss root) := by
        have := Seg.of_own hown4
        rwa [HN.out.1] at this ⊢
      have hqb : ∀ b, (Value.slice A4 nr c4).ownBlock = some b → W3.heap.size ≤ b := fun b hb => (hown4.lt b hb).1
      have HA := Lib.hid (show AskAt W3 w4 M ms picks root (.slice A4 nr c4) root [] (root.length + 6 * picks.length) from ⟨hqu, hqb, H3.out.2.below hb4, GrownIn.of_below hb4, rfl, by simp, List.nodup_nil, by simp, HN.out.2.2, by have := HN.out; omega⟩)
      have HB3 := Lib.hid (HB2.out.trans (H3.out.1.mono HB2.out.size))
      clear hown4 hb4 hqu hqb CL
      go_wp2_with (fail)
      have KP := Lib.hid (fun (wr : World) (hg : GrownIn (fun b => b = M) W3 wr) => (show Blk wr T 23 [.slice A2 n2 c2] ∧ Reads wr (fun b => b ≠ M) 2 A2 n2 (pks picks) ∧ MdsAt wr (fun b => b ≠ M) A1 n1 c1 ms by
        have hS : Same (fun b => b ≠ M) W3 wr := Same.of_in hg fun b hb _ => hb
        have hm0 : ∀ b, Any b → b < w.heap.size → b ≠ M := fun b _ hl => by have := HB2.out.size; have := HMM.out; omega
        have hb0 : Below w.heap.size w W3 := HB3.out
        exact ⟨(HT2.out.below H3.out.1 HT2.out.lt).same hS (by have := HT2.out.lt; have := HMM.out; omega), ((HH.out.2.2.imp (by omega) hm0).keep (fun b _ hl => hb0.block b hl)).keep hS, ((HH.out.1.imp hm0).keep (fun b _ hl => hb0.block b hl)).keep hS⟩))
      clear hlt
      go_loopw [9, 10, 11, 12] (fun v9 v10 v11 v12 wr => ∃ (q : List Us) (re : List Nm) (k : Nat), vlen v9 = q.length ∧ Hid (AskAt W3 wr M ms picks root v9 q re k)) (fun v9 _ _ _ w' => vlen v9 + 6 * (picks.length - Sv.mapLen w' M))
      case atStart => exact ⟨root, [], _, HN.out.1, HA.out⟩
      case round =>
        obtain ⟨q, re, k, hlen, HI2⟩ := hrel
        obtain ⟨Aq, cq, rfl, hqc, hqm⟩ := HI2.out.qu.form
        have hkp := KP.out wr HI2.out.gr
        have t0 := hkp.1.cell 0
        have lT := hkp.1.lt
        simp only [List.getElem?_cons_zero] at t0
        rcases q with _ | ⟨u, q'⟩
        · have hlb := HI2.out.mp
          go_wp2_with (refine wpList_mlen _ rfl (.tmp 95) _ rfl Try.underlying76 rfl hlb ?_)
          have hres : ((((tt re).length : Nat) : Int) == (n2 : Int)) = true ↔ RightP ms root picks := by
            have e1 : (tt re).length = re.length := by simp [tt]
            rw [e1, beq_iff_eq]
            have e2 := HI2.out.eq
            have e3 : rightGo ms picks k [] re = some re := by cases k <;> rfl
            rw [e3] at e2
            have := HN.out.2.1
            constructor
            · intro h
              exact ⟨HAsc.out, re, e2, by omega⟩
            · rintro ⟨_, re', h1, h2⟩
              rw [e2] at h1
              injection h1 with h1
              subst h1
              omega
          have HRs := Lib.hid hres
          have HBl := Lib.hid (HB3.out.trans (Below.of_in (Below.refl _ _) (own := fun b => b = M) (B := w.heap.size) (w := W3) (w' := wr) (HI2.out.gr) (fun b hb => by have := HMM.out; have := HB2.out.size; omega) (by have := HB3.out.size; omega)))
          clear hres
          generalize hbb : ((((tt re).length : Nat) : Int) == (n2 : Int)) = bb at HRs ⊢
          go_ret
          exact ⟨_, rfl, HRs.out, HBl.out⟩
        · obtain ⟨k, rfl⟩ := HI2.out.one
          obtain ⟨A', c', he, _, _, hqr⟩ := HI2.out.qu.reads
          injection he with he1 he2 he3
          subst he1 he3
          obtain ⟨b1, o1, rfl, _, p0, p1, p2⟩ := uss_cells hqr (k := 0) (by simp) rfl
          simp only [Nat.zero_mul, Nat.add_zero, List.getElem_cons_zero] at p0 p1 p2
          have hu := HI2.out.ok u (by simp)
          have hun : u.name.length ≤ 65536 := by obtain ⟨⟨c, e, _⟩, _⟩ := hu; rw [e]; simp
          obtain ⟨U, hU⟩ : ∃ U, U = wr.heap.size := ⟨_, rfl⟩
          obtain ⟨W1, hW1⟩ : ∃ W, W = wr.alloc (.cells #[str u.name, .int .i64 (u.low : Nat), .int .i64 (u.high : Nat)] 47) := ⟨_, rfl⟩
          have hbk : Blk W1 U 47 [str u.name, .int .i64 (u.low : Nat), .int .i64 (u.high : Nat)] := by rw [hW1, hU]; exact Blk.new wr _ _
          have hb1 : Below wr.heap.size wr W1 := by rw [hW1]; exact (Below.refl _ _).alloc (Nat.le_refl _) _
          have hI1 := HI2.out.below hb1
          have hk1 := KP.out W1 hI1.gr
          have t1 := hk1.1.cell 0
          have lT1 := hk1.1.lt
          simp only [List.getElem?_cons_zero] at t1
          have hMU : M < U := by rw [hU]; exact HI2.out.mp.lt
          have eg1 : ∀ args w, (callFunc 36 args).run Try.prog w = .ok (.enter 36 args) w := enters_of Try.func36 (by kernel_rfl) rfl
          have IP := indexFuncP_any A2 n2 c2 picks (fun p => decide (p.1 = u.name)) 36 #[.pointer (some ⟨U, 0, none⟩)] W1 (hk1.2.1.imp (by omega) fun _ _ _ => trivial) HN.out.2.1 (by omega) eg1 (fun r _ W' hb => right1_any r u U W' ((hb.cell (p := ⟨U, 0, none⟩) hbk.lt).trans (hbk.cell 0)) (by have := hb.size; have := hbk.lt; omega))
          have IP := Lib.hid IP
          have HI3 := Lib.hid hI1
          have HBk := Lib.hid hbk
          have HU := Lib.hid (And.intro hu (And.intro hun hMU))
          clear hqr hb1 hI1 hk1 hbk hu hun hMU eg1 hkp hlen
          go_upto_region 13 with (fail)
          rw [← hW1, ← hU]
          clear hW1 hU p0 p1 p2 t0 lT
          go_wp2_with (fail)
          refine IP.out.mono ?_
          rintro e w5 ⟨i5, rfl, hfa, hb5⟩
          obtain ⟨I, hI⟩ : ∃ I, I = w5.heap.size := ⟨_, rfl⟩
          obtain ⟨W6, hW6⟩ : ∃ W, W = w5.alloc (.cells #[.int .i64 i5] 3) := ⟨_, rfl⟩
          have hbI : Blk W6 I 3 [.int .i64 i5] := by rw [hW6, hI]; exact Blk.new w5 _ _
          have hb6 : Below w5.heap.size w5 W6 := by rw [hW6]; exact (Below.refl _ _).alloc (Nat.le_refl _) _
          have hb16 : Below W1.heap.size W1 W6 := hb5.trans (hb6.mono hb5.size)
          have hI6 := HI3.out.below hb16
          have hU6 := HBk.out.below hb16 HBk.out.lt
          have hk6 := KP.out W6 hI6.gr
          have z0 := hbI.cell 0
          have t6 := hk6.1.cell 0
          have y0 := hU6.cell 0
          have y1 := hU6.cell 1
          have y2 := hU6.cell 2
          simp only [List.getElem?_cons_zero, List.getElem?_cons_succ] at z0 t6 y0 y1 y2
          have lI6 := hbI.lt
          have lT6 := hk6.1.lt
          have lU6 := hU6.lt
          have HI6 := Lib.hid hI6
          have HK6 := Lib.hid hk6
          have HbI := Lib.hid hbI
          have HU6 := Lib.hid hU6
          clear t1 lT1 IP hb5 hbI hb6 hb16 hI6 hU6
          go_upto_region 14 with (fail)
          rw [← hW6, ← hI]
          clear hW6 hI
          have hbw : Below w.heap.size w W6.drew := by
            have h := HB3.out.trans (Below.of_in (Below.refl _ _) (own := fun b => b = M) (B := w.heap.size) (w := W3) (w' := W6) HI6.out.gr (fun b hb => by have := HMM.out; have := HB2.out.size; omega) (by have := HB3.out.size; omega))
            exact ⟨h.os, h.tape, h.output, h.size, h.block⟩
          have HBw := Lib.hid hbw
          clear hbw
          rcases hfa with ⟨hfn, rfl⟩ | ⟨j, hj, rfl, hfs⟩
          · have hno : ¬ RightP ms root picks := ask_none HI6.out (by unfold metBy pkOf; rw [hfn])
            have HNo := Lib.hid hno
            clear hno hfn hk6
            go_region
            all_goals
              go_wp2_with (fail)
              go_ret
              exact ⟨false, rfl, ⟨fun h => (by cases h), fun h => absurd h HNo.out⟩, HBw.out⟩
          · have hjn : j < n2 := by have := HN.out.2.1; omega
            obtain ⟨b2, o2, rfl, _, g0, g1⟩ := pks_cells hk6.2.1 hjn HN.out.2.1
            have lb2 := lt_of_cell g1
            have i0 : (0 : Int) ≤ (j : Int) := by omega
            have i1 : (j : Int) < (n2 : Int) := by omega
            have d0 : decide ((j : Int) < 0) = false := decide_eq_false (by omega)
            have hpk : pkOf picks u.name = some picks[j] := hfs
            have HJ := Lib.hid hj
            have HPk := Lib.hid hpk
            clear hk6 hfs hpk
            obtain ⟨pv, hpv⟩ : ∃ pv, pv = (picks[j]).2 := ⟨_, rfl⟩
            have g2 : W6.cell? ⟨b2, o2 + j * 2 + 1, none⟩ = some (.int .i64 (pv : Nat)) := by rw [hpv]; exact g1
            have HPv := Lib.hid hpv
            clear hpv g0 g1
            by_cases cl : pv < u.low
            · have d1 : decide ((pv : Int) < (u.low : Int)) = true := decide_eq_true (by omega)
              have d3 : decide (pv < u.low) = true := decide_eq_true (by omega)
              have hno : ¬ RightP ms root picks := ask_none HI6.out (by unfold metBy; rw [HPk.out]; exact if_pos (.inl (by have := HPv.out; omega)))
              have HNo := Lib.hid hno
              clear hno
              go_quiet (fail)
              all_goals
                go_wp2_with (fail)
                go_ret
                exact ⟨false, rfl, ⟨fun h => (by cases h), fun h => absurd h HNo.out⟩, ⟨HBw.out.os, HBw.out.tape, HBw.out.output, HBw.out.size, HBw.out.block⟩⟩
            · have d1 : decide ((pv : Int) < (u.low : Int)) = false := decide_eq_false (by omega)
              have d3 : decide (pv < u.low) = false := decide_eq_false (by omega)
              by_cases ch : u.high < pv
              · have d2 : decide ((pv : Int) > (u.high : Int)) = true := decide_eq_true (by omega)
                have d4 : decide (u.high < pv) = true := decide_eq_true (by omega)
                have hno : ¬ RightP ms root picks := ask_none HI6.out (by unfold metBy; rw [HPk.out]; exact if_pos (.inr (by have := HPv.out; omega)))
                have HNo := Lib.hid hno
                clear hno
                go_quiet (fail)
                all_goals
                  go_wp2_with (fail)
                  go_ret
                  exact ⟨false, rfl, ⟨fun h => (by cases h), fun h => absurd h HNo.out⟩, ⟨HBw.out.os, HBw.out.tape, HBw.out.output, HBw.out.size, HBw.out.block⟩⟩
              · have d2 : decide ((pv : Int) > (u.high : Int)) = false := decide_eq_false (by omega)
                have d4 : decide (u.high < pv) = false := decide_eq_false (by omega)
                have hmet : metBy ms picks u = mdOf ms u.name pv := by
                  unfold metBy
                  rw [HPk.out]
                  refine (if_neg (by have := HPv.out; omega)).trans ?_
                  exact congrArg (mdOf ms u.name) HPv.out.symm
                have eg2 : ∀ args w, (callFunc 38 args).run Try.prog w = .ok (.enter 38 args) w := enters_of Try.func38 (by kernel_rfl) rfl
                have IM := fun (W7 : World) (hW7 : W7.heap = W6.heap) => indexFuncM_any A1 n1 c1 ms (fun m => decide (m.name = u.name) && decide (m.ver = pv)) 38 #[.pointer (some ⟨U, 0, none⟩), .pointer (some ⟨T, 0, none⟩), .pointer (some ⟨I, 0, none⟩)] W7
                  ((HK6.out.2.2.imp fun _ _ _ => trivial).keep fun b _ _ => by rw [hW7]) (by obtain ⟨_, h1, _⟩ := HK6.out.2.2; have := HM.out.ln; omega) eg2 (fun r _ B m d W' hb => by
                    have hs : W7.heap.size = W6.heap.size := by rw [hW7]
                    have kc : ∀ (p : Addr) (x : Value), W6.cell? p = some x → p.block < W6.heap.size → W'.cell? p = some x := fun p x hc hl => (hb.cell (p := p) (by omega)).trans (by rw [← hc]; unfold World.cell?; rw [hW7])
                    have hws := hb.size
                    have R2 := right2_any r B m d u U T I W' _ n2 c2 picks j HJ.out HN.out.2.1 hf (kc _ _ y0 lU6) (by omega) (kc _ _ t6 lT6) (by omega) (kc _ _ z0 lI6) (by omega) (((HK6.out.2.1.imp (by omega) fun _ _ _ => trivial).keep (w' := W7) fun b _ _ => by rw [hW7]).keep (Same.any hb))
                    have e9 : decide (r.ver = (picks[j]'HJ.out).2) = decide (r.ver = pv) := by have := HPv.out; exact decide_eq_decide.2 (by omega)
                    rw [e9] at R2
                    exact R2)
                have IM := Lib.hid IM
                have HMt := Lib.hid hmet
                clear hmet eg2
                go_quiet (fail)
                all_goals
                  clear g2 lb2 i0 i1 d0 d1 d2
                  go_wp2_with (fail)
                  refine (IM.out (W6.drewN nq) rfl).mono ?_
                  rintro e w7 ⟨i7, rfl, hfa, hb7⟩
                  have hb67 : Below W6.heap.size W6 w7 := ⟨hb7.os, hb7.tape, hb7.output, hb7.size, hb7.block⟩
                  have hI7 := HI6.out.below hb67
                  have hU7 := HU6.out.below hb67 HU6.out.lt
                  have x0 := hU7.cell 0
                  have lU7 := hU7.lt
                  simp only [List.getElem?_cons_zero] at x0
                  have HI7 := Lib.hid hI7
                  have HBw7 := Lib.hid (show Below w.heap.size w w7 from Below.trans (b := W6) ⟨HBw.out.os, HBw.out.tape, HBw.out.output, HBw.out.size, HBw.out.block⟩ (hb67.mono HBw.out.size))
                  have HMp := Lib.hid hI7.mp
                  clear IM hb7 hb67 hI7 hU7 z0 t6 y0 y1 y2 lI6 lT6 lU6
                  rcases hfa with ⟨hfn, rfl⟩ | ⟨j2, hj2, rfl, hfs⟩
                  · have hno : ¬ RightP ms root picks := ask_none HI7.out (by rw [HMt.out]; unfold mdOf; exact hfn)
                    have HNo := Lib.hid hno
                    clear hno hfn
                    go_wp2_with (fail)
                    go_ret
                    exact ⟨false, rfl, ⟨fun h => (by cases h), fun h => absurd h HNo.out⟩, HBw7.out⟩
                  · have hmm : metBy ms picks u = some ms[j2] := by rw [HMt.out]; unfold mdOf; exact hfs
                    have hmem : ms[j2] ∈ ms := List.getElem_mem hj2
                    have hlk : (Instr.lookup 76 (.map (some M)) (str u.name) false).run Try.prog w7 = .ok (.bool (decide (u.name ∈ re))) w7 := by
                      have := HI7.out.mp.lookup enc_S Try.underlying76 zero_bool (a := u.name) HU.out.2.1 false
                      rw [tt_get] at this
                      exact this
                    have HMm := Lib.hid (And.intro hmm hmem)
                    have HFs := Lib.hid hfs
                    clear hmm hmem hfs
                    have g5 : decide ((j2 : Int) < 0) = false := decide_eq_false (by omega)
                    by_cases hin : u.name ∈ re
                    · rw [decide_eq_true hin] at hlk
                      obtain ⟨sg, ow⟩ := Seg.tail1 (P := Try.prog) 39 Try.underlying39 (by kernel_rfl) (n := q'.length) (HI7.out.qu)
                      have ed : (uss (u :: q')).drop 3 = uss q' := rfl
                      rw [ed] at sg
                      have hstep : rightGo ms picks (k + 1) (u :: q') re = rightGo ms picks k q' re := by rw [rightGo, HMm.out.1]; simp only; rw [if_pos hin]
                      have HA7 := Lib.hid (show AskAt W3 w7 M ms picks root (.slice (if cq = 1 then some ⟨b1, o1, none⟩ else some ⟨b1, o1 + 3, none⟩) q'.length (cq - 1)) q' re k from ⟨sg, fun b hb => HI7.out.qb b (by rw [ow] at hb; exact hb), HI7.out.mp, HI7.out.gr, HI7.out.eq.trans hstep, by have := HI7.out.le; simp only [List.length_cons] at this; omega, HI7.out.nd, HI7.out.sb, fun x hx => HI7.out.ok x (List.mem_cons_of_mem _ hx), by have := HI7.out.kb; omega⟩)
                      have HML := Lib.hid (show Sv.mapLen w7 M = Sv.mapLen wr M by rw [MapOf.mapLen HI7.out.mp, MapOf.mapLen HI2.out.mp])
                      clear sg ow ed hstep hin
                      go_wp2_with (fail)
                      exact ⟨⟨q', re, k, rfl, HA7.out⟩, by have := HML.out; simp [vlen, this]⟩
                    · rw [decide_eq_false hin] at hlk
                      have hpn : u.name ∈ picks.map (·.1) := by
                        have h1 := List.mem_of_find?_eq_some HPk.out
                        have h2 := List.find?_some HPk.out
                        simp only [decide_eq_true_eq] at h2
                        exact List.mem_map.2 ⟨_, h1, h2⟩
                      have hnd' : (re ++ [u.name]).Nodup := by
                        rw [List.nodup_append]
                        exact ⟨HI7.out.nd, by simp, fun a ha b hb e => by simp at hb; subst hb; subst e; exact hin ha⟩
                      have hsb' : ∀ n ∈ re ++ [u.name], n ∈ picks.map (·.1) := fun n hn => (List.mem_append.1 hn).elim (HI7.out.sb n) fun e => by rw [List.mem_singleton] at e; rw [e]; exact hpn
                      have hrl := re_le hnd' hsb'
                      rw [List.length_append, List.length_singleton] at hrl
                      have hstep : rightGo ms picks (k + 1) (u :: q') re = rightGo ms picks k (q' ++ (ms[j2]).uses) (re ++ [u.name]) := by rw [rightGo, HMm.out.1]; simp only; rw [if_neg hin]
                      have hus := HM.out.us _ HMm.out.2
                      have HNd := Lib.hid (And.intro hnd' (And.intro hsb' (And.intro hrl (And.intro hstep (And.intro hus hin)))))
                      clear hpn hnd' hsb' hrl hstep hus hin
                      have hn1 : n1 = ms.length := by obtain ⟨_, h1, _⟩ := HK6.out.2.2; exact h1
                      have hj2n : j2 < n1 := by omega
                      obtain ⟨b3, o3, Au, nu, cu, hA1, hD3, _, _, p2, q1, q2, q3, q4⟩ := (KP.out w7 HI7.out.gr).2.2.cells hj2n hj2
                      have k0 : (0 : Int) ≤ (j2 : Int) := by omega
                      have k1 : (j2 : Int) < (n1 : Int) := by omega
                      have hnu : nu ≤ 5 := by have := HNd.out.2.2.2.2.1.1; omega
                      have hqn : q'.length ≤ 7000 := by have h8 := HI7.out.le; have := HI7.out.kb; simp only [List.length_cons] at h8; omega
                      have hb1M : W3.heap.size ≤ b1 := HI7.out.qb b1 rfl
                      have hM3 : M < W3.heap.size := H3.out.2.lt
                      have l3 := lt_of_cell p2
                      have HQ4 := Lib.hid (And.intro q1 (And.intro hD3 q4))
                      subst hA1
                      have HP2 := Lib.hid p2
                      clear p2 q1 q2 q3 q4 hD3
                      go_wp2_with (first
                        | (refine wpList_mupdate _ rfl (.tmp 85) (.tmp 87) (.const (.bool true)) _ rfl enc_S Try.underlying76 (b := M) (key := u.name) rfl (by exact HMp.out) rfl HU.out.2.1 ?_; intro w8 hm8 hg8; have hm9 : MapOf str okS w8 M (tt (re ++ [u.name])) := (by rw [← tt_put re u.name HNd.out.2.2.2.2.2]; exact hm8); have p2 := hg8.cell HP2.out (fun e => HQ4.out.2.1 (by injection e)); have l8 := lt_of_cell p2; have sg8 := HI7.out.qu.keep (w' := w8) (fun b hb => hg8.block b (HI7.out.qu.lt b hb) (fun e => (by injection e with e; have := HI7.out.qb b hb; omega))); have r8 := HQ4.out.2.2.keep (w' := w8) (fun b hb hl => hg8.block b hl (fun e => hb (by injection e))); have HM8 := Lib.hid (And.intro hm9 (And.intro hg8 (And.intro sg8 r8))); clear hm8 hg8 hm9 sg8 r8)
                        | (at_builtin; refine app_useg _ rfl (.tmp 88) (.tmp 93) rfl HM8.out.2.2.1 rfl rfl HM8.out.2.2.2 (uss_ones _) (by first | omega | (simp only [List.length_cons]; omega)) ?_; intro v9 w9 sg9 hg9 hat9; rw [show (u :: q').length + nu = (q'.length + nu) + 1 by simp only [List.length_cons]; omega] at sg9; obtain ⟨g9, o9, c9, rfl⟩ := sg9.block (by omega); obtain ⟨sgT, owT⟩ := Seg.tail1 (P := Try.prog) 39 Try.underlying39 (by kernel_rfl) sg9; have HT9 := Lib.hid (And.intro sgT (And.intro owT (And.intro hg9 hat9))); clear sg9 sgT owT hg9 hat9))
                      all_goals
                        obtain ⟨hnd', hsb', hrl, hstep, hus, hin⟩ := HNd.out
                        obtain ⟨sgT, owT, hg9, hat9⟩ := HT9.out
                        obtain ⟨hm9, hg8, sg8, r8⟩ := HM8.out
                        have l89 : W3.heap.size ≤ w8.heap.size := Nat.le_trans HI7.out.gr.size hg8.size
                        have hg9W : ∀ b, (Value.slice (some ⟨g9, o9, none⟩) (q'.length + nu + 1) c9).ownBlock = some b → W3.heap.size ≤ b := by
                          intro b hb
                          rcases hat9 b hb with h | h
                          · exact HI7.out.qb b h
                          · omega
                        have hlen9 : q'.length + nu = (q' ++ (ms[j2]).uses).length := by rw [List.length_append]; have := HQ4.out.1; omega
                        have hus9 : (uss (u :: q') ++ uss (ms[j2]).uses).drop 3 = uss (q' ++ (ms[j2]).uses) := by rw [uss_append]; rfl
                        have hm10 : MapOf str okS w9 M (tt (re ++ [u.name])) := hm9.grown hg9 (fun e => by have := HI7.out.qb M e.symm; omega)
                        have hA9 : ∀ A c, Value.slice A (q'.length + nu) c = Value.slice (if c9 = 1 then some ⟨g9, o9, none⟩ else some ⟨g9, o9 + 3, none⟩) (q'.length + nu) (c9 - 1) → AskAt W3 w9 M ms picks root (.slice A (q'.length + nu) c) (q' ++ (ms[j2]).uses) (re ++ [u.name]) k := by
                          intro A c e
                          rw [e]
                          refine ⟨by rw [← hus9, ← hlen9]; exact sgT, fun b hb => ?_, hm10, ?_, HI7.out.eq.trans hstep, ?_, hnd', hsb', ?_, by have := HI7.out.kb; omega⟩
                          · rw [owT] at hb
                            exact hg9W b hb
                          · exact (HI7.out.gr.trans (GrownIn.of_grown (own := fun b => b = M) hg8 (fun b hb => by injection hb with hb; exact hb.symm)) (fun _ h => .inl h)).trans (GrownIn.of_grown (own := fun b => W3.heap.size ≤ b) hg9 (fun b hb => HI7.out.qb b hb)) (fun _ h => .inr h)
                          · have := HI7.out.le
                            simp only [List.length_cons] at this
                            rw [List.length_append, List.length_append, List.length_singleton]
                            have := HQ4.out.1
                            omega
                          · intro x hx
                            rcases List.mem_append.1 hx with h | h
                            · exact HI7.out.ok x (List.mem_cons_of_mem _ h)
                            · exact hus.2 x h
                        have hml : Sv.mapLen w9 M = re.length + 1 := by rw [MapOf.mapLen hm10]; simp [tt]
                        have hml0 : Sv.mapLen wr M = re.length := by rw [MapOf.mapLen HI2.out.mp]; simp [tt]
                        refine ⟨⟨q' ++ (ms[j2]).uses, hlen9, re ++ [u.name], k, hA9 _ _ (by simp [*])⟩, ?_⟩
                        simp only [vlen]
                        rw [hml, hml0]
                        omega
end Go.Proofs.Ytijniccmgjokoaa
