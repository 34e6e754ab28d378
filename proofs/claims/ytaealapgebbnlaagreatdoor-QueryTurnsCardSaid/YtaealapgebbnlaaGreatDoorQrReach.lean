/- Contracts of (*graph).has, (*graph).reach and query.Reach. -/
import Derived.Test.YtaealapgebbnlaaGreatDoorQrSeg
import Derived.Test.YtaealapgebbnlaaGreatDoorQrLaw
import Derived.Deep.LoopGhost
set_option linter.unusedVariables false
namespace Go.Proofs.YtaealapgebbnlaaGreatDoor
open Go.RowKit Go.Mem Go.Md Go.Maps
theorem Gr.okn {w : World} {G U I : Nat} {acts : Value} {nm : List Bs} {im : List (Bs × Value)} {bs : List Nat} {ls : List (List Bs)} (h : Gr w G U I acts nm im bs ls) {n : Bs} (hn : n ∈ nm) : okB n := by
  obtain ⟨k, hk, rfl⟩ := List.mem_iff_getElem.1 hn
  obtain ⟨_, _, _, _, _, ho⟩ := h.u
  exact ho _ (mget_mem (zipU_get h.lb h.nn hk))
set_option maxRecDepth 100000 in
theorem has_any (G U I : Nat) (acts : Value) (nm : List Bs) (im : List (Bs × Value)) (bs : List Nat) (ls : List (List Bs)) (w : World) (hg : Gr w G U I acts nm im bs ls) (D : Nat → Prop) (A : Option Addr) (c : Nat) (l : List Bs) (n : Nat) (hn : n = l.length) (hn9 : n ≤ 1000) (hr : Reads w D 1 A n (l.map bst)) (hl : ∀ s ∈ l, s ∈ nm) :
    Calls Tryz.prog 14 #[.pointer (some ⟨G, 0, none⟩), .slice A n c] w fun e w' => e = .returned (.int .i64 0) ∧ w = w' := by
  have g0 := hg.g.cell 0
  simp only [List.getElem?_cons_zero] at g0
  have lg := lt_of_cell g0
  have HG := Lib.hid hg
  have HR := Lib.hid hr
  have HL := Lib.hid hl
  have HN := Lib.hid hn
  clear hg hr hl hn
  go_enter Tryz.func14, Tryz.ntmps14
  go_wp2_with (fail)
  go_loopw [11] (fun v wr => ∃ k : Nat, k ≤ n ∧ v = .int .i64 (k : Nat) ∧ w = wr) (fun v _ => n - (intOf v).toNat)
  case atStart => exact ⟨0, Nat.zero_le _, rfl, rfl⟩
  case round =>
    obtain ⟨k, hk, rfl, rfl⟩ := hrel
    by_cases hlt : k < n
    · obtain ⟨b, o, u, rfl, _, hu, p0⟩ := HR.out.at_ hlt
      have hkl : k < l.length := by have := HN.out; omega
      obtain ⟨S, hS⟩ : ∃ S : ByteArray, S = ⟨(l[k]).toArray⟩ := ⟨_, rfl⟩
      have hu2 : u = .string S := by
        rw [List.getElem?_map, List.getElem?_eq_getElem hkl] at hu
        rw [hS]
        injection hu with hu
        exact hu.symm
      subst hu2
      have hm := HL.out _ (List.getElem_mem hkl)
      obtain ⟨i, hi, e⟩ := List.mem_iff_getElem.1 hm
      have lk := HG.out.get (k := i) (n := l[k]) (b := bs[i]'(by have := HG.out.lb; omega)) (by rw [List.getElem?_eq_getElem hi, e]) (List.getElem?_eq_getElem _) true w rfl
      simp only [if_true] at lk
      rw [show bst l[k] = .string S from by rw [hS]] at lk
      obtain ⟨bk, hbk⟩ : ∃ b, b = bs[i]'(by have := HG.out.lb; omega) := ⟨_, rfl⟩
      rw [← hbk] at lk
      have lp := lt_of_cell p0
      clear hS hu hm hbk e
      go_wp2_with (fail)
      exact ⟨⟨k + 1, by omega, by go_num, trivial⟩, by simp [intOf]; omega⟩
    · obtain rfl : k = n := by omega
      go_wp2_with (fail)
      go_ret
      exact ⟨rfl, rfl⟩
/-- in the midst of reach -/
structure RcAt (w wr : World) (b0 : Nat) (v : Value) (q O : List Bs) : Prop where
  qu : Seg wr 9 1 v q.length (q.map bst)
  qb : ∀ b, v.ownBlock = some b → w.heap.size ≤ b ∧ b ≠ b0
  so : SetAt wr b0 O
  be : Below w.heap.size w wr
set_option maxRecDepth 100000 in
set_option maxHeartbeats 4000000 in
theorem reach_any (G U I : Nat) (acts : Value) (nm : List Bs) (im : List (Bs × Value)) (bs : List Nat) (ls : List (List Bs)) (w : World) (hg : Gr w G U I acts nm im bs ls) (hu : UsesIn nm ls) (h10 : nm.length ≤ 10) (D : Nat → Prop) (A : Option Addr) (c n : Nat) (l : List Bs) (hr : Reads w D 1 A n (l.map bst)) (hn : n = l.length) (hn9 : l.length ≤ 10) (hl : ∀ s ∈ l, s ∈ nm) :
    Calls Tryz.prog 35 #[.pointer (some ⟨G, 0, none⟩), .slice A n c] w fun e w' => ∃ b O, e = .returned (.map (some b)) ∧ SetAt w' b O ∧ ReachOf nm ls l O ∧ Below w.heap.size w w' := by
  have hmm := @run_makeMap Tryz.prog
  obtain ⟨W, hW⟩ : ∃ W, W = w.alloc (.map #[] 0) := ⟨_, rfl⟩
  obtain ⟨b0, hb0⟩ : ∃ b, b = w.heap.size := ⟨_, rfl⟩
  have bW : Below w.heap.size w W := by rw [hW]; exact (Below.refl _ _).alloc (Nat.le_refl _) _
  have s0 : SetAt W b0 [] := by rw [hW, hb0]; exact MapOf.new w
  have CL := Lib.hid (clone_str A n c l D W (hr.keep (Same.of_below bW fun _ _ h => h)) (by omega))
  have HG := Lib.hid (And.intro hg (And.intro hu h10))
  have HW := Lib.hid (And.intro bW s0)
  have HN := Lib.hid (And.intro hn (And.intro hn9 hl))
  have hWW := Lib.hid (And.intro hW hb0)
  clear hg hu h10 bW s0 hr hn hn9 hl hW
  go_enter Tryz.func35, Tryz.ntmps35
  go_wp2_with (fail)
  rw [← hWW.out.1, ← hWW.out.2]
  refine CL.out.mono ?_
  rintro e W1 ⟨A1, c1, rfl, ho, hb⟩
  have H1 := Lib.hid (show RcAt w W1 b0 (.slice A1 n c1) l [] from ⟨by rw [← HN.out.1]; exact Seg.of_own ho, fun b hb' => by
      have h1 := (ho.lt b hb').1
      have h2 := MapOf.lt HW.out.2
      have h3 := HW.out.1.size
      omega, HW.out.2.below hb, HW.out.1.trans (hb.mono HW.out.1.size)⟩)
  clear ho hb hb0 CL
  go_wp2_with (fail)
  go_loopg [6] (110 + l.length) (fun g v wr => ∃ q O A c, v = .slice A q.length c ∧ g = 11 * (10 - O.length) + q.length ∧ 11 * (10 - O.length) + q.length ≤ 120 ∧ Hid (RcAt w wr b0 (.slice A q.length c) q O) ∧ Hid (Rc nm ls l q O))
  case atStart =>
    refine ⟨l, [], A1, c1, by rw [HN.out.1], by simp, by have := HN.out.2.1; simp; omega, by rw [← HN.out.1]; exact H1.out, Rc.start HN.out.2.2⟩
  case round =>
    obtain ⟨q, O, Aq, cq, rfl, hg, hq, HR, HP⟩ := hrel
    clear H1
    rcases q with _ | ⟨s, q'⟩
    · simp only [List.length_nil]
      clear hg
      go_wp2_with (fail)
      go_ret
      exact ⟨b0, O, rfl, HR.out.so, HP.out.done, HR.out.be⟩
    · obtain ⟨gq, oq, cq', e⟩ := HR.out.qu.block (by simp)
      injection e with e1 _ e3
      subst e1
      clear e3
      have hsn : s ∈ nm := HP.out.qn s (List.mem_cons_self ..)
      have hOl : O.length ≤ nm.length := nodup_len HP.out.nd HP.out.on
      have hok := HG.out.1.okn hsn
      obtain ⟨S, hS⟩ : ∃ S : ByteArray, S = ⟨s.toArray⟩ := ⟨_, rfl⟩
      have c0 : wr.cell? ⟨gq, oq, none⟩ = some (.string S) := by rw [hS]; exact HR.out.qu.cells 0 _ rfl
      have l0 := lt_of_cell c0
      have lkO : (Instr.lookup 63 (.map (some b0)) (.string S) false).run Tryz.prog wr = .ok (.bool (decide (s ∈ O))) wr := by
        have h1 := HR.out.so.lookup enc_B Tryz.underlying63 zero_bl (a := s) hok false
        rw [mget_set] at h1
        rw [hS]
        by_cases h : s ∈ O
        · rw [if_pos h] at h1
          rw [decide_eq_true h]
          exact h1
        · rw [if_neg h] at h1
          rw [decide_eq_false h]
          exact h1
      obtain ⟨m, hm⟩ : ∃ m, m = q'.length := ⟨_, rfl⟩
      have HM := Lib.hid hm
      have HQ := Lib.hid (And.intro hg hq)
      rw [show (s :: q').length = m + 1 from by rw [hm]; rfl]
      by_cases hs : s ∈ O
      · rw [decide_eq_true hs] at lkO
        have sg0 : Seg wr 9 1 (.slice (some ⟨gq, oq, none⟩) (m + 1) cq) (m + 1) ((s :: q').map bst) := by rw [hm]; exact HR.out.qu
        obtain ⟨sg, ow⟩ := Seg.tail1 (P := Tryz.prog) 32 Tryz.underlying32 (by kernel_rfl) sg0
        have HA := Lib.hid (fun (A' : Option Addr) (c' : Nat) (e : Value.slice A' m c' = .slice (if cq = 1 then some ⟨gq, oq, none⟩ else some ⟨gq, oq + 1, none⟩) m (cq - 1)) => (show RcAt w wr b0 (.slice A' q'.length c') q' O from ⟨by rw [← HM.out, e]; exact sg, fun b hb => HR.out.qb b (by rw [← HM.out, e, ow] at hb; exact hb), HR.out.so, HR.out.be⟩))
        have HP2 := Lib.hid (HP.out.skip hs)
        clear sg ow sg0 hm hg hq hS hs hsn hOl hok
        go_wp2_with (fail)
        all_goals
          go_roundg (11 * (10 - O.length) + m)
          case measure => have := HQ.out.1; have := HM.out; simp only [List.length_cons] at *; omega
          case rel =>
            have h8 := HQ.out
            have h9 := HM.out
            simp only [List.length_cons] at h8
            exact ⟨q', O, _, _, by rw [h9], by omega, by omega, HA.out _ _ (by simp [*]), HP2.out⟩
      · rw [decide_eq_false hs] at lkO
        obtain ⟨w8, up, hs8, hg8⟩ := MapOf.update enc_B HR.out.so Tryz.underlying63 hok (.bool true)
        rw [mput_set, insF, if_neg hs] at hs8
        rw [show bst s = .string S from by rw [hS]] at up
        have hb0w : w.heap.size ≤ b0 := by rw [hWW.out.2]; exact Nat.le_refl _
        have be8 : Below w.heap.size w w8 := Below.of_in HR.out.be (GrownIn.of_grown (own := fun b => b = b0) hg8 (fun b hb => by injection hb with hb; exact hb.symm)) (fun b hb => by omega) HR.out.be.size
        have gr8 := HG.out.1.below be8
        obtain ⟨u1, u2⟩ := useOf_at (ls := ls) hsn HG.out.2.1.1
        obtain ⟨bk, hbk⟩ : ∃ bk, bs[nm.idxOf s]? = some bk := ⟨_, List.getElem?_eq_getElem (by rw [gr8.lb]; exact (List.getElem?_eq_some_iff.1 u1).1)⟩
        have lk8 := gr8.get u1 hbk false w8 rfl
        simp only [Bool.false_eq_true, if_false] at lk8
        rw [show bst s = .string S from by rw [hS]] at lk8
        have g8 := gr8.g.cell 0
        simp only [List.getElem?_cons_zero] at g8
        have lg8 := lt_of_cell g8
        have hul : (useOf nm ls s).length ≤ 10 := Nat.le_trans (HG.out.2.1.len s) HG.out.2.2
        have SO := Lib.hid (sorted_any bk (useOf nm ls s) w8 (gr8.s _ bk _ hbk u2) (by omega))
        have sg8 : Seg w8 9 1 (.slice (some ⟨gq, oq, none⟩) (m + 1) cq) (m + 1) ((s :: q').map bst) := by
          have h1 : Seg w8 9 1 (.slice (some ⟨gq, oq, none⟩) (s :: q').length cq) (s :: q').length ((s :: q').map bst) := HR.out.qu.keep (fun b hb => hg8.block b (HR.out.qu.lt b hb) (fun e => (HR.out.qb b hb).2 (by injection e)))
          rw [hm]
          exact h1
        have H8 := Lib.hid (And.intro sg8 (And.intro hs8 be8))
        have HU := Lib.hid hul
        have HSO := Lib.hid (And.intro hs (And.intro hOl hsn))
        clear sg8 hs8 be8 gr8 hul hg8 u1 u2 hbk hs hOl hsn hok hm hg hq hS hb0w
        obtain ⟨mu, hmu⟩ : ∃ k, k = (useOf nm ls s).length := ⟨_, rfl⟩
        have HMU := Lib.hid hmu
        clear hmu
        go_wp2_with (fail)
        refine SO.out.mono ?_
        rintro e w9 ⟨A9, k9, rfl, _, _, hr9, hb9⟩
        rw [← HMU.out] at hr9 ⊢
        have sg9 := H8.out.1.keep (w' := w9) (fun b hb => hb9.block b (H8.out.1.lt b hb))
        have H9 := Lib.hid (And.intro sg9 (And.intro hr9 hb9))
        have hmm9 : mu ≤ 10 := by rw [HMU.out]; exact HU.out
        have hm9 : m ≤ 120 := by have h1 := HQ.out.2; have h2 := HM.out; simp only [List.length_cons] at h1; omega
        clear sg9 hr9 hb9 g8 lg8 lk8 up lkO c0 l0
        go_wp2_with (at_builtin; refine app_strg _ rfl (.tmp 25) (.tmp 32) rfl H9.out.1 rfl rfl H9.out.2.1 (strs_one _) (by omega) ?_; intro v10 w10 sg10 hg10 hat10; rw [show m + 1 + mu = (m + mu) + 1 by omega] at sg10; obtain ⟨g10, o10, c10, rfl⟩ := sg10.block (by omega); obtain ⟨sgT, owT⟩ := Seg.tail1 (P := Tryz.prog) 32 Tryz.underlying32 (by kernel_rfl) sg10; have HT := Lib.hid (And.intro sgT (And.intro owT (And.intro hg10 hat10))); clear sg10 sgT owT hg10 hat10)
        all_goals
          obtain ⟨sgT, owT, hg10, hat10⟩ := HT.out
          obtain ⟨sg8, hs8, be8⟩ := H8.out
          obtain ⟨sg9, hr9, hb9⟩ := H9.out
          obtain ⟨hs, hOl, hsn⟩ := HSO.out
          have hP3 := HP.out.take HG.out.2.1 hs (n := srt (useOf nm ls s)) (fun t => List.mem_mergeSort)
          have hO3 : (O ++ [s]).length ≤ nm.length := nodup_len hP3.nd hP3.on
          rw [List.length_append, List.length_singleton] at hO3
          have hnm10 := HG.out.2.2
          have hlen : (q' ++ srt (useOf nm ls s)).length = m + mu := by rw [List.length_append, List.length_mergeSort, HM.out, HMU.out]
          have h8 := HQ.out
          have h9 := HM.out
          simp only [List.length_cons] at h8
          have qb9 : ∀ b, (Value.slice (some ⟨gq, oq, none⟩) (m + 1) cq).ownBlock = some b → w.heap.size ≤ b ∧ b ≠ b0 := fun b hb => HR.out.qb b (by rw [← hb]; rfl)
          have bL : b0 < w9.heap.size := by have := MapOf.lt hs8; have := hb9.size; omega
          have HA : ∀ (A' : Option Addr) (c' : Nat), Value.slice A' (m + mu) c' = .slice (if c10 = 1 then some ⟨g10, o10, none⟩ else some ⟨g10, o10 + 1, none⟩) (m + mu) (c10 - 1) → RcAt w w10 b0 (.slice A' (q' ++ srt (useOf nm ls s)).length c') (q' ++ srt (useOf nm ls s)) (O ++ [s]) := fun A' c' e => by
            rw [hlen, e]
            refine ⟨?_, fun b hb => ?_, ?_, ?_⟩
            · rw [hlen]
              have hd : ((s :: q').map bst ++ (srt (useOf nm ls s)).map bst).drop 1 = (q' ++ srt (useOf nm ls s)).map bst := by simp
              rw [← hd]
              exact sgT
            · rw [owT] at hb
              rcases hat10 b hb with h | h
              · exact qb9 b h
              · have := be8.size
                have := hb9.size
                omega
            · exact MapOf.grown (hs8.below hb9) hg10 (fun e => (qb9 b0 e.symm).2 rfl)
            · exact Below.of_in (be8.trans (hb9.mono be8.size)) (GrownIn.of_grown (own := fun b => w.heap.size ≤ b) hg10 (fun b e => (qb9 b e).1)) (fun b h => h) (Nat.le_trans be8.size hb9.size)
          have HAH := Lib.hid HA
          have HP4 := Lib.hid hP3
          clear hP3 HA sgT owT hg10 hat10 sg8 hs8 be8 sg9 hr9 hb9 hs hsn qb9 bL
          go_roundg (11 * (10 - (O.length + 1)) + (m + mu))
          case measure => omega
          case rel => exact ⟨q' ++ srt (useOf nm ls s), O ++ [s], _, _, by rw [hlen], by rw [hlen, List.length_append, List.length_singleton], by rw [hlen, List.length_append, List.length_singleton]; omega, HAH.out _ _ (by simp [*]), HP4.out⟩
end Go.Proofs.YtaealapgebbnlaaGreatDoor
