/- Contract of package move's Run. -/
import Derived.Test.YtckkelppdeampaaHarbRun0
import Derived.Test.YtckkelppdeampaaSetRow
import Derived.Outline
set_option linter.unusedVariables false
namespace Go.Proofs.Ytckkelppdeampaa
open Go.RowKit Go.Mem Go.Mv Go.Maps
def RunPost (w : World) (s : Hb) (e : Ending) (w' : World) : Prop := ∃ (col : Nat → Mc) (m : Hm) (B ways waits : Nat) (K : List (Nat × Nat)),
  e = .returned (.tuple #[.agg #[.slice (some ⟨m.GT, 0, none⟩) s.got.length m.cG, .slice (some ⟨m.AT, 0, none⟩) s.at_.length m.cA, .int .i64 (ways : Nat), .int .i64 (waits : Nat)], .int .i64 0]) ∧
  HW w' B col m s ∧ w.heap.size ≤ B ∧ Below w.heap.size w w' ∧ ways = wsum List.length s.ways ∧
  (∀ p ∈ K, (1 ≤ p.1 ∧ p.1 ≤ s.nodes) ∧ p.2 < s.at_.length) ∧ waits = (s.wait.map List.length).sum + (K.map fun p => (s.box p.1 p.2).st.length).sum
/-- behind the deeds -/
structure RanAt (w wr : World) (B : Nat) (col : Nat → Mc) (m : Hm) (s : Hb) (T Z : Nat) : Prop where
  hw : HW wr B col m s
  hT : m.T = T
  Z_ : Blk wr Z 28 [.slice none 0 0, .slice none 0 0, .int .i64 0, .int .i64 0]
  ZB : Z < B
  wZ : w.heap.size ≤ Z
  Bs : B ≤ wr.heap.size
  bl : Below w.heap.size w wr
  kI : ∀ p ∈ m.lI, (1 ≤ p.1.1 ∧ p.1.1 ≤ s.nodes) ∧ p.1.2 < s.at_.length
set_option maxRecDepth 100000 in
set_option maxHeartbeats 4000000 in
theorem mvrun_any (w : World) (nodes : Nat) (C : List Nat) (A : Option Addr) (n c : Nat) (A2 : Option Addr) (mm c2 : Nat) (D : List Dv) (h1 : 1 ≤ nodes ∧ nodes ≤ 8) (hn : n = C.length) (hn0 : 0 < n) (hn5 : n ≤ 5) (hC : ∀ x ∈ C, 1 ≤ x ∧ x ≤ nodes) (hr : Reads w Any 1 A n (natv C)) (hm : mm = D.length) (hm4 : mm ≤ 400) (hrd : Reads w Any 5 A2 mm (dvcs D)) (hD : ∀ d ∈ D, DOk nodes C.length d ∧ 1 ≤ d.kind) :
    Calls Try.prog 5 #[.int .i64 (nodes : Nat), .slice A n c, .slice A2 mm c2] w (RunPost w (runF (newF nodes C) D)) := by
  have hst := fun k hk => runs_at h1 hC (fun d hd => (hD d hd).1) (by omega) k hk
  obtain ⟨W0, hW0⟩ : ∃ W0, W0 = (w.alloc (.cells #[.int .i64 (nodes : Nat)] 3)).alloc (.cells #[.slice none 0 0, .slice none 0 0, .int .i64 0, .int .i64 0] 28) := ⟨_, rfl⟩
  have hN : Blk W0 w.heap.size 3 [.int .i64 (nodes : Nat)] := by rw [hW0]; exact (Blk.new w _ [.int .i64 (nodes : Nat)]).alloc _
  have hZ : Blk W0 (w.heap.size + 1) 28 [.slice none 0 0, .slice none 0 0, .int .i64 0, .int .i64 0] := by
    have := Blk.new (w.alloc (.cells #[.int .i64 (nodes : Nat)] 3)) 28 [.slice none 0 0, .slice none 0 0, .int .i64 0, .int .i64 0]
    rw [hW0]
    simpa using this
  have hb0 : Below w.heap.size w W0 := by rw [hW0]; exact ((Below.refl _ _).alloc (Nat.le_refl _) _).alloc (by simp) _
  have hs0 : W0.heap.size = w.heap.size + 2 := by rw [hW0]; simp
  obtain ⟨N, hNe⟩ : ∃ N, N = w.heap.size := ⟨_, rfl⟩
  obtain ⟨Z, hZe⟩ : ∃ Z, Z = w.heap.size + 1 := ⟨_, rfl⟩
  rw [← hNe] at hN
  rw [← hZe] at hZ
  have n0 := hN.cell 0
  simp only [List.getElem?_cons_zero] at n0
  have lN := hN.lt
  have lZ := hZ.lt
  have CF := Lib.hid (containsFunc_no W0 A n c C nodes N hn (by omega) (hr.keep (Same.any hb0)) hC n0 lN)
  have NW := Lib.hid (newWorld_any W0 nodes C A n c hn hn0 ⟨h1.2, hn5⟩ (hr.keep (Same.any hb0)))
  have Hrd := Lib.hid (hrd.keep (Same.any (D := Any) hb0))
  have d1 : decide ((nodes : Int) < 1) = false := by simp; omega
  have d2 : decide ((8 : Int) < (nodes : Int)) = false := by simp; omega
  have d3 : decide ((5 : Int) < (n : Int)) = false := by simp; omega
  have d4 : decide ((400 : Int) < (mm : Int)) = false := by simp; omega
  have d2' : decide (8 < nodes) = false := by simp; omega
  have d3' : decide (5 < n) = false := by simp; omega
  have d4' : decide (400 < mm) = false := by simp; omega
  have Hst := Lib.hid hst
  have HW0 := Lib.hid hW0
  have HN := Lib.hid (And.intro hNe hZe)
  have HZ := Lib.hid hZ
  have Hb0 := Lib.hid hb0
  have Hs0 := Lib.hid hs0
  have Hm := Lib.hid hm
  have Hn := Lib.hid hn
  have HDo := Lib.hid hD
  clear hst hW0 hN hZ hb0 hs0 hNe hZe hm hn hD hC hr hrd
  go_enter Try.func5, Try.ntmps5
  go_wp2_with (fail)
  rw [← HW0.out, ← HN.out.2, ← HN.out.1]
  refine CF.out.mono ?_
  rintro e w1 ⟨rfl, rfl⟩
  dsimp only
  go_wp2_with (fail)
  refine NW.out.mono ?_
  rintro e w2 ⟨col, m, rfl, hh, hb2, hkI⟩
  dsimp only
  obtain ⟨T, hT⟩ : ∃ T, T = m.T := ⟨_, rfl⟩
  rw [← hT]
  obtain ⟨B, hB⟩ : ∃ B, B = W0.heap.size := ⟨_, rfl⟩
  rw [← hB] at hh
  have H2 : Hid (m.T = T ∧ HW w2 B col m (newF nodes C) ∧ Below W0.heap.size W0 w2 ∧ ∀ p ∈ m.lI, (1 ≤ p.1.1 ∧ p.1.1 ≤ nodes) ∧ p.1.2 < C.length) := ⟨hT.symm, hh, hb2, hkI⟩
  have HB := Lib.hid hB
  clear CF NW hT hh hb2 hkI n0 lN lZ hB d1 d2 d3 d4 d2' d3' d4'
  go_wp2_with (fail)
  go_loopw [46] (fun i wr => ∃ k col' m', k ≤ mm ∧ i = .int .i64 (k : Nat) ∧ Hid (m'.T = T ∧ HW wr B col' m' (runF (newF nodes C) (D.take k)) ∧ Stp w2 wr col col')) (fun i _ => mm - (intOf i).toNat)
  case atStart => exact ⟨0, col, m, Nat.zero_le _, rfl, H2.out.1, H2.out.2.1, Stp.same (GrownIn.refl _ _)⟩
  case round =>
    obtain ⟨k, col', m', hk, rfl, HK⟩ := hrel
    have hBr : B ≤ wr.heap.size := by have := HK.out.2.2.gr.size; have := H2.out.2.2.1.size; have := HB.out; omega
    by_cases hlt : k < mm
    · have hkl : k < D.length := by have := Hm.out; omega
      obtain ⟨b, off, rfl, _, hcell⟩ := Hrd.out.2 (by omega)
      have hbw : Below W0.heap.size W0 wr := Below.of_in H2.out.2.2.1 HK.out.2.2.gr (fun b ho => by
        have := HB.out
        rcases Nat.lt_or_ge b B with hl | hl
        · exact absurd (H2.out.2.1.low b hl) ho.2
        · omega) H2.out.2.2.1.size
      have hs := Same.any (D := Any) hbw
      have hat := fun (j : Nat) (hj : j < 5) (u : Value) (hu : (dvc D[k])[j]? = some u) => hs.cell trivial (hcell (k * 5 + j) u (by rw [dvcs_at D k j hkl hj]; exact hu))
      have hdk := HDo.out _ (List.getElem_mem hkl)
      have HRN := Lib.hid (run_take (newF nodes C) D k hkl)
      generalize D[k] = d at hat hdk HRN
      obtain ⟨kd, fr, tt, wh, nn⟩ := d
      have g0 := hat 0 (by omega) _ rfl
      have g1 := hat 1 (by omega) _ rfl
      have g2 := hat 2 (by omega) _ rfl
      have g3 := hat 3 (by omega) _ rfl
      have g4 := hat 4 (by omega) _ rfl
      simp only [Nat.add_zero, ← Nat.add_assoc] at g0 g1 g2 g3 g4
      have lb := lt_of_cell g0
      have hin : GrownIn (fun _ => False) wr (wr.alloc (.cells #[.int .i64 kd, .int .i64 fr, .int .i64 tt, .int .i64 wh, .int .i64 nn] 35)) := (GrownIn.refl _ _).alloc _
      obtain ⟨c1, c2, c3⟩ := Hst.out k (by omega)
      have DO := Lib.hid (do_any _ B _ m' _ (HK.out.2.1.grow hBr hin) (Nat.le_trans hBr hin.size) c1 c2 (by omega) ⟨kd, fr, tt, wh, nn⟩ (by rw [c3]; exact hdk.1) hdk.2)
      have ST := Lib.hid (HK.out.2.2.trans (Stp.grow (col := col') .cst hin fun _ _ e => e.elim))
      rw [HK.out.1] at DO
      clear hcell hs hat hdk hbw hin c1 c2 c3
      go_wp2_with (fail)
      refine DO.out.mono ?_
      rintro e w3 ⟨col3, m3, rfl, hT3, hh3, hs3⟩
      dsimp only
      go_wp2_with (fail)
      exact ⟨⟨k + 1, col3, m3, by omega, by go_num, by rw [HRN.out]; exact ⟨hT3, hh3, ST.out.trans hs3⟩⟩, by simp [intOf]; omega⟩
    · obtain rfl : k = mm := by omega
      have hall : D.take k = D := List.take_of_length_le (by have := Hm.out; omega)
      obtain ⟨hc, hbd, hnn⟩ := Hst.out k (by have := Hm.out; omega)
      have hK := HK.out
      rw [hall] at hK hc hbd hnn
      have hkI' := inb_same H2.out.2.1 hK.2.1 hK.2.2 (hK.1.trans H2.out.1.symm)
      obtain ⟨s, hs⟩ : ∃ s, s = runF (newF nodes C) D := ⟨_, rfl⟩
      rw [← hs] at hK hc hbd hnn
      have hal := hc.al
      have hbw : Below W0.heap.size W0 wr := Below.of_in H2.out.2.2.1 hK.2.2.gr (fun b ho => by
        have := HB.out
        rcases Nat.lt_or_ge b B with hl | hl
        · exact absurd (H2.out.2.1.low b hl) ho.2
        · omega) H2.out.2.2.1.size
      have hZr : Blk wr Z 28 _ := (hbw.block Z HZ.out.lt).trans HZ.out
      have HR : Hid (RanAt w wr B col' m' s T Z) := ⟨hK.2.1, hK.1, hZr, by have := HB.out; have := Hs0.out; have := HN.out.2; omega, by have := HN.out.2; omega, hBr, Hb0.out.trans (hbw.mono (by have := Hs0.out; omega)), by rw [hkI', hnn, hal]; exact H2.out.2.2.2⟩
      have HC := Lib.hid (And.intro hc hbd)
      have Hs := Lib.hid hs
      clear hall hc hbd hnn hK hkI' hs hal hbw hZr HK Hst H2 HZ HW0 Hb0 Hs0 HN Hrd HDo hlt hBr
      obtain ⟨wq, hwq⟩ : ∃ wq, wq = wr := ⟨_, rfl⟩
      subst hwq
      have t1 := HR.out.hw.blk.cell 1
      have t7 := HR.out.hw.blk.cell 7
      have lT := HR.out.hw.blk.lt
      rw [HR.out.hT] at t1 t7 lT
      simp only [List.getElem?_cons_zero, List.getElem?_cons_succ] at t1 t7
      go_wp2_with (fail)
      go_region_held3 (fun w' => w'.cell? ⟨T, 1, none⟩ = some (.slice (some ⟨m'.AT, 0, none⟩) s.at_.length m'.cA) ∧ w'.cell? ⟨T, 7, none⟩ = some (.slice (some ⟨m'.GT, 0, none⟩) s.got.length m'.cG)) (go_keep) (fail)
      all_goals
        have hO : Blk ((wq.alloc (.cells #[.slice (some ⟨m'.GT, 0, none⟩) s.got.length m'.cG, .slice (some ⟨m'.AT, 0, none⟩) s.at_.length m'.cA, .int .i64 0, .int .i64 0] 28)).drew) wq.heap.size 28 [.slice (some ⟨m'.GT, 0, none⟩) s.got.length m'.cG, .slice (some ⟨m'.AT, 0, none⟩) s.at_.length m'.cA, .int .i64 ((0 : Nat) : Int), .int .i64 ((0 : Nat) : Int)] := (Blk.new wq _ [.slice (some ⟨m'.GT, 0, none⟩) s.got.length m'.cG, .slice (some ⟨m'.AT, 0, none⟩) s.at_.length m'.cA, .int .i64 ((0 : Nat) : Int), .int .i64 ((0 : Nat) : Int)]).drew
        have hbO : Below wq.heap.size wq ((wq.alloc (.cells #[.slice (some ⟨m'.GT, 0, none⟩) s.got.length m'.cG, .slice (some ⟨m'.AT, 0, none⟩) s.at_.length m'.cA, .int .i64 0, .int .i64 0] 28)).drew) := ((Below.refl _ _).alloc (Nat.le_refl _) _).drew
        obtain ⟨O, hOe⟩ : ∃ O, O = wq.heap.size := ⟨_, rfl⟩
        rw [← hOe] at hO ⊢
        generalize (wq.alloc (.cells #[.slice (some ⟨m'.GT, 0, none⟩) s.got.length m'.cG, .slice (some ⟨m'.AT, 0, none⟩) s.at_.length m'.cA, .int .i64 0, .int .i64 0] 28)).drew = W4 at hO hbO ⊢
        have HO := Lib.hid (And.intro hO hbO)
        have HOe := Lib.hid hOe
        have lT0 := lT
        have t5 := HR.out.hw.blk.cell 5
        rw [HR.out.hT] at t5
        simp only [List.getElem?_cons_zero, List.getElem?_cons_succ] at t5
        have s5 := (hbO.cell (p := ⟨T, 5, none⟩) lT).trans t5
        have lT4 : T < W4.heap.size := by have := hbO.size; omega
        have hWm := Lib.hid (HR.out.hw.hW.below hbO)
        have hkn : (s.ways.map (·.1)).Nodup := HC.out.1.wk
        have hTot : (m'.lW.map fun p => lenV p.2).sum = wsum List.length s.ways := ways_len HR.out.hw.kW hkn (fun q v cc e1 e2 => by
          obtain ⟨_, _, e, _⟩ := (HR.out.hw.eW q v cc e1 e2).1.form
          rw [e]
          rfl)
        have hbds := ways_bd HC.out.2 (by have := Hm.out; omega)
        obtain ⟨TOT, hTOT⟩ : ∃ TOT, TOT = wsum List.length s.ways := ⟨_, rfl⟩
        obtain ⟨SW, hSW⟩ : ∃ SW, SW = (s.wait.map List.length).sum := ⟨_, rfl⟩
        rw [← hTOT, ← hSW] at hbds
        rw [← hTOT] at hTot
        have Hkn := Lib.hid hkn
        have HTot := Lib.hid hTot
        have HTOT := Lib.hid hTOT
        have HSW := Lib.hid hSW
        clear hO hbO hOe t1 t7 t5 lT lT0 hkn hTot hTOT hSW
        go_wp2_with (refine wpList_mrange _ rfl (.tmp 66) 47 rfl Try.underlying47 rfl hWm.out ?_; intro w5 hit5 hb5 hs5)
        go_frame
        obtain ⟨R, hR⟩ : ∃ R, R = W4.heap.size := ⟨_, rfl⟩
        rw [← hR] at hit5 ⊢
        have hOR : O < R := by have := HO.out.1.lt; omega
        have HI5 := Lib.hid hit5
        have hO5 := Lib.hid ((hb5.block O HO.out.1.lt).trans HO.out.1)
        have hB5 := Lib.hid (HO.out.2.trans (hb5.mono (by have := HO.out.2.size; omega)))
        have hWyR : m'.Wy ≠ R := by have := HR.out.hw.hW.lt; have := HOe.out; omega
        have hWyO : m'.Wy < O := by have := HR.out.hw.hW.lt; have := HOe.out; omega
        clear hit5 hb5 hs5 hR s5 lT4 hWm
        have hwl := HR.out.hw.wl
        obtain ⟨NW1, hNW⟩ : ∃ NW1, NW1 = s.nodes + 1 := ⟨_, rfl⟩
        rw [← hNW] at hwl
        have Hwl := Lib.hid hwl
        have HNW := Lib.hid hNW
        have hn9 : NW1 ≤ 9 := by rw [hNW]; have := HR.out.hw.nd; omega
        clear hwl hNW
        go_loopg [13] m'.lW.length (fun g v13 wr => ∃ left acc, Hid (left.length = g ∧ IterOf encP okP wr m'.Wy R m'.lW left ∧ (∀ p ∈ left, p ∈ m'.lW) ∧ acc + (left.map fun p => lenV p.2).sum = TOT ∧ Below wq.heap.size wq wr) ∧ Hid (Blk wr O 28 [.slice (some ⟨m'.GT, 0, none⟩) s.got.length m'.cG, .slice (some ⟨m'.AT, 0, none⟩) s.at_.length m'.cA, .int .i64 ((acc : Nat) : Int), .int .i64 ((0 : Nat) : Int)]))
        case atStart => exact ⟨m'.lW, 0, ⟨rfl, HI5.out, fun _ h => h, by rw [Nat.zero_add]; exact HTot.out, hB5.out⟩, hO5.out⟩
        case round =>
          obtain ⟨left, acc, HL, HB2⟩ := hrel
          have o2 := HB2.out.cell 2
          simp only [List.getElem?_cons_zero, List.getElem?_cons_succ] at o2
          have fo2 := HB2.out.frozen 2
          have lO := HB2.out.lt
          have hacc : acc ≤ TOT := by have := HL.out.2.2.2.1; omega
          have t6 := HR.out.hw.blk.cell 6
          rw [HR.out.hT] at t6
          simp only [List.getElem?_cons_zero, List.getElem?_cons_succ] at t6
          have lT1 := HR.out.hw.blk.lt
          rw [HR.out.hT] at lT1
          rw [← HNW.out] at t6
          have s6 := (HL.out.2.2.2.2.cell (p := ⟨T, 6, none⟩) lT1).trans t6
          have lT2 : T < wr.heap.size := by have := HL.out.2.2.2.2.size; omega
          clear t6 lT1
          go_wp2_with (refine wpList_mnext _ rfl (.tmp 67) rfl rfl HL.out.2.1 hWyR (fun h0 => ?_) ?_; rotate_left; intro x v l1 l2 w6 h0 hit6 hg6 hs6 hent; obtain ⟨A9, n9, c9, hv, l9, hl9, hn9⟩ := HR.out.hw.ent Hkn.out (HL.out.2.2.1 (x, v) (by rw [h0]; simp)); simp only at hv; subst hv; have H0 := Lib.hid h0; have hB6 := HB2.out.grown hg6 (by intro e; injection e with e; omega); have b2 := hB6.cell 2; simp only [List.getElem?_cons_zero, List.getElem?_cons_succ] at b2; have fb2 := hB6.frozen 2; have lb2 := hB6.lt; have i13 : acc + n9 ≤ TOT := (by have h1 := HL.out.2.2.2.1; rw [h0] at h1; simp [lenV] at h1; omega); have HB6 := Lib.hid hB6; clear h0 hl9 hn9 hB6)
          · have hsz6 := hs6
            have hbl := HL.out.2.2.2.2
            have hOq : wq.heap.size ≤ O := by have := HOe.out; omega
            have hb6 : Below wq.heap.size wq w6 := hbl.grown hg6 (by have := hbl.size; omega) (fun q hq => by injection hq with hq; omega)
            go_roundg (l1 ++ l2).length
            case measure =>
              have e1 := HL.out.1
              rw [H0.out] at e1
              simp at e1 ⊢
              omega
            case rel =>
              refine ⟨l1 ++ l2, acc + n9, ⟨rfl, hit6.same (Below.heap_setCell w6 ⟨O, 2, none⟩ _ m'.Wy (by show m'.Wy ≠ O; omega)) (Below.heap_setCell w6 ⟨O, 2, none⟩ _ R (by show R ≠ O; omega)), fun p hp => HL.out.2.2.1 p (by rw [H0.out]; rcases List.mem_append.1 hp with hp | hp; exact List.mem_append_left _ hp; exact List.mem_append_right _ (List.mem_cons_of_mem _ hp)), ?_, hb6.setCell (p := ⟨O, 2, none⟩) hOq _⟩, ?_⟩
              · have e1 := HL.out.2.2.2.1
                rw [H0.out] at e1
                simp [lenV] at e1 ⊢
                omega
              · have := HB6.out.put 2 (.int .i64 ((acc : Int) + (n9 : Int)))
                rw [show ((acc + n9 : Nat) : Int) = (acc : Int) + (n9 : Int) by omega]
                exact this
          · have hacc2 : acc = TOT := by
              have := HL.out.2.2.2.1
              rw [h0] at this
              simpa using this
            subst hacc2
            have HB3 := HB2
            have HL3 := Lib.hid HL.out.2.2.2.2
            clear o2 fo2 lO hacc h0 HL HB2 s6 lT2 HI5 hO5 hB5 hWyR hWyO HTot
            obtain ⟨wp, hwp⟩ : ∃ wp, wp = wr := ⟨_, rfl⟩
            subst hwp
            go_loopw [83] (fun i wr => ∃ j, j ≤ NW1 ∧ i = .int .i64 (j : Nat) ∧ Hid (Below wq.heap.size wq wr ∧ Blk wr O 28 [.slice (some ⟨m'.GT, 0, none⟩) s.got.length m'.cG, .slice (some ⟨m'.AT, 0, none⟩) s.at_.length m'.cA, .int .i64 ((acc : Nat) : Int), .int .i64 ((((s.wait.take j).map List.length).sum : Nat) : Int)])) (fun i _ => NW1 - (intOf i).toNat)
            case atStart => exact ⟨0, Nat.zero_le _, rfl, HL3.out, by simpa using HB3.out⟩
            case round =>
              obtain ⟨j, hj, rfl, HJ⟩ := hrel
              have o3 := HJ.out.2.cell 3
              simp only [List.getElem?_cons_zero, List.getElem?_cons_succ] at o3
              have fo3 := HJ.out.2.frozen 3
              have lO := HJ.out.2.lt
              have hOq : wq.heap.size ≤ O := by have := HOe.out; omega
              by_cases hlj : j < NW1
              · have hjl : j < s.wait.length := by rw [Hwl.out]; exact hlj
                obtain ⟨v, hv, hsg⟩ := HR.out.hw.eT j _ (List.getElem?_eq_getElem hjl)
                obtain ⟨A8, c8, rfl, _⟩ := hsg.1.form
                have hcl := (HR.out.hw.hT.cell j).trans hv
                have lWT := HR.out.hw.hT.lt
                have g0 := (HJ.out.1.cell (p := ⟨m'.WT, j, none⟩) lWT).trans hcl
                have lWT2 : m'.WT < wr.heap.size := by have := HJ.out.1.size; omega
                have hsum : ((s.wait.take (j + 1)).map List.length).sum = ((s.wait.take j).map List.length).sum + s.wait[j].length := by
                  rw [List.take_succ_eq_append_getElem hjl]
                  simp only [List.map_append, List.sum_append, List.map_cons, List.map_nil, List.sum_cons, List.sum_nil, Nat.add_zero]
                have hle : ((s.wait.take (j + 1)).map List.length).sum ≤ SW := by
                  rw [HSW.out]
                  conv => rhs; rw [← List.take_append_drop (j + 1) s.wait]
                  rw [List.map_append, List.sum_append]
                  omega
                have HS := Lib.hid hsum
                obtain ⟨q, hq⟩ : ∃ q, q = ((s.wait.take j).map List.length).sum := ⟨_, rfl⟩
                obtain ⟨r, hr8⟩ : ∃ r, r = s.wait[j].length := ⟨_, rfl⟩
                rw [← hq] at o3
                rw [← hr8] at g0
                rw [hsum, ← hq, ← hr8] at hle
                have Hq := Lib.hid (And.intro hq hr8)
                clear hv hsg hcl lWT hsum hq hr8
                go_wp2_with (fail)
                refine ⟨⟨j + 1, by omega, by go_num, HJ.out.1.setCell (p := ⟨O, 3, none⟩) hOq _, ?_⟩, by simp [intOf]; omega⟩
                rw [HS.out, ← Hq.out.1, ← Hq.out.2, show ((q + r : Nat) : Int) = (q : Int) + (r : Int) by omega]
                exact HJ.out.2.put 3 _
              · obtain rfl : j = NW1 := by omega
                have hall : s.wait.take j = s.wait := List.take_of_length_le (by rw [Hwl.out]; exact Nat.le_refl _)
                have hJ := HJ.out
                rw [hall, ← HSW.out] at hJ
                have HJ2 := Lib.hid hJ
                clear hJ hall HJ o3 fo3 lO HB3 HL3
                have t4 := HR.out.hw.blk.cell 4
                rw [HR.out.hT] at t4
                simp only [List.getElem?_cons_zero, List.getElem?_cons_succ] at t4
                have lT1 := HR.out.hw.blk.lt
                rw [HR.out.hT] at lT1
                have s4 := (HJ2.out.1.cell (p := ⟨T, 4, none⟩) lT1).trans t4
                have lT2 : T < wr.heap.size := by have := HJ2.out.1.size; omega
                have hIm := Lib.hid (HR.out.hw.hI.below HJ2.out.1)
                clear t4 lT1
                go_wp2_with (refine wpList_mrange _ rfl (.tmp 97) 46 rfl Try.underlying46 rfl hIm.out ?_; intro w5 hit5 hb5 hs5)
                go_frame
                obtain ⟨R2, hR2⟩ : ∃ R2, R2 = wr.heap.size := ⟨_, rfl⟩
                rw [← hR2] at hit5 ⊢
                have hOR2 : O < R2 := by have := HJ2.out.2.lt; omega
                have HI5 := Lib.hid hit5
                have hO5 := Lib.hid ((hb5.block O HJ2.out.2.lt).trans HJ2.out.2)
                have hB5 := Lib.hid (HJ2.out.1.trans (hb5.mono HJ2.out.1.size))
                have hInq := HR.out.hw.hI.lt
                have hInR : m'.In ≠ R2 := by have := HOe.out; omega
                have hInO : m'.In < O := by have := HOe.out; omega
                have hnk : (m'.lI.map (·.1)).Nodup := HR.out.hw.hI.keys enc_spot
                have hk45 := keys_few hnk (fun p hp => by obtain ⟨q, hq, rfl⟩ := List.mem_map.1 hp; exact HR.out.kI q hq) HR.out.hw.nd.1 HR.out.hw.nd.2
                have hbb := boxes_bd HC.out.1 (by have := Hm.out; omega) (m'.lI.map (·.1)) (fun p hp => by obtain ⟨q, hq, rfl⟩ := List.mem_map.1 hp; have h5 := HR.out.kI q hq; rw [HC.out.1.al] at h5; exact h5)
                rw [List.map_map] at hbb
                simp only [Function.comp_def] at hbb
                obtain ⟨TB, hTB⟩ : ∃ TB, TB = (m'.lI.map fun p => (s.box p.1.1 p.1.2).st.length).sum := ⟨_, rfl⟩
                rw [← hTB] at hbb
                have hTB2 : SW + TB ≤ 200000 := by omega
                have Hnk := Lib.hid hnk
                have HTB := Lib.hid hTB
                clear hit5 hb5 hs5 hR2 s4 lT2 hIm hnk hbb hTB hk45 HJ2 hOR
                go_loopg [17] m'.lI.length (fun g v17 wr => ∃ left acc2, Hid (left.length = g ∧ IterOf encP okP wr m'.In R2 m'.lI left ∧ (∀ p ∈ left, p ∈ m'.lI) ∧ acc2 + (left.map fun p => (s.box p.1.1 p.1.2).st.length).sum = SW + TB ∧ Below wq.heap.size wq wr) ∧ Hid (Blk wr O 28 [.slice (some ⟨m'.GT, 0, none⟩) s.got.length m'.cG, .slice (some ⟨m'.AT, 0, none⟩) s.at_.length m'.cA, .int .i64 ((acc : Nat) : Int), .int .i64 ((acc2 : Nat) : Int)]))
                case atStart => exact ⟨m'.lI, SW, ⟨rfl, HI5.out, fun _ h => h, by rw [HTB.out], hB5.out⟩, hO5.out⟩
                case round =>
                  obtain ⟨left, acc2, HL, HB2⟩ := hrel
                  have hacc2 : acc2 ≤ SW + TB := by have := HL.out.2.2.2.1; omega
                  have hOq : wq.heap.size ≤ O := by have := HOe.out; omega
                  have hbl := HL.out.2.2.2.2
                  have HBl := Lib.hid hbl
                  have hZq := HR.out.Z_.lt
                  have zr : Blk wr Z _ _ := HR.out.Z_.below hbl hZq
                  have z0 := zr.cell 0
                  have z1 := zr.cell 1
                  have z2 := zr.cell 2
                  have z3 := zr.cell 3
                  have o0 := HB2.out.cell 0
                  have o1 := HB2.out.cell 1
                  have o2 := HB2.out.cell 2
                  have o3 := HB2.out.cell 3
                  simp only [List.getElem?_cons_zero, List.getElem?_cons_succ] at z0 z1 z2 z3 o0 o1 o2 o3
                  have fz0 := zr.frozen 0
                  have fz1 := zr.frozen 1
                  have fz2 := zr.frozen 2
                  have fz3 := zr.frozen 3
                  have lO := HB2.out.lt
                  have lZ := zr.lt
                  have hq := setRow_blk zr [.slice (some ⟨m'.GT, 0, none⟩) s.got.length m'.cG, .slice (some ⟨m'.AT, 0, none⟩) s.at_.length m'.cA, .int .i64 ((acc : Nat) : Int), .int .i64 ((acc2 : Nat) : Int)] rfl
                  have hin : GrownIn (fun b => b = Z) wq (setRow wr Z 0 [.slice (some ⟨m'.GT, 0, none⟩) s.got.length m'.cG, .slice (some ⟨m'.AT, 0, none⟩) s.at_.length m'.cA, .int .i64 ((acc : Nat) : Int), .int .i64 ((acc2 : Nat) : Int)]) := by
                    exact setRow_in (own := fun b => b = Z) rfl _ _ _ (GrownIn.of_below hbl)
                  have hfar := HR.out.hw.far HR.out.Bs (hin.wide fun b hb => by rw [hb]; exact HR.out.hw.low Z HR.out.ZB)
                  have hbq := Below.of_in HR.out.bl hin (fun b hb => by rw [hb]; exact HR.out.wZ) HR.out.bl.size
                  simp only [setRow, Nat.reduceAdd] at hq hfar hbq
                  have Hq := Lib.hid hq
                  have Hfar := Lib.hid hfar
                  have Hbq := Lib.hid hbq
                  have HB2' := HB2
                  clear hq hin hfar hbq zr hbl
                  go_wp2_with (refine wpList_mnext _ rfl (.tmp 98) rfl rfl HL.out.2.1 hInR (fun h0 => ?_) ?_; rotate_left; intro x v l1 l2 w6 h0 hit6 hg6 hs6 hent; have h7 := HR.out.kI (x, v) (HL.out.2.2.1 (x, v) (by rw [h0]; simp)); have h8 : v = .pointer (some ⟨m'.I x.1 x.2, 0, none⟩) := (by have h9 := HR.out.hw.eI x.1 x.2 h7.1.1 h7.1.2 h7.2; have h10 := mget_at (a := x) Hnk.out (HL.out.2.2.1 (x, v) (by rw [h0]; simp)); rw [show (x.1, x.2) = x from rfl, h10] at h9; injection h9); subst h8; have hB6 := HB2.out.grown hg6 (by intro e; injection e with e; omega); have b3 := hB6.cell 3; simp only [List.getElem?_cons_zero, List.getElem?_cons_succ] at b3; have fb3 := hB6.frozen 3; have lb3 := hB6.lt; have hb6 : Below wq.heap.size wq w6 := (HBl.out.grown hg6 (by have := HBl.out.size; omega) (fun q hq => by injection hq with hq; omega)); have hbx := HR.out.hw.bx x.1 x.2 h7.1.1 h7.1.2 h7.2; have i1 := (hb6.cell (p := ⟨m'.I x.1 x.2, 1, none⟩) hbx.1.blk.lt).trans (hbx.1.blk.cell 1); simp only [List.getElem?_cons_zero, List.getElem?_cons_succ] at i1; have li : m'.I x.1 x.2 < w6.heap.size := (by have := hbx.1.blk.lt; have := hb6.size; omega); have hml := fun (W : World) (hW : W.heap = w6.heap) (ty : TypeId) => ((hbx.1.st.below hb6).same (w' := W) (by rw [hW])).len (P := Try.prog) Try.underlying56 ty; simp only [List.length_map] at hml; have i13 : acc2 + (s.box x.1 x.2).st.length ≤ SW + TB := (by have e1 := HL.out.2.2.2.1; rw [h0] at e1; simp at e1; omega); obtain ⟨n9, hn9'⟩ : ∃ n9, n9 = (s.box x.1 x.2).st.length := ⟨_, rfl⟩; rw [← hn9'] at hml i13; have ml1 := fun ty => hml w6.drew rfl ty; have ml0 := fun ty => hml w6 rfl ty; have H0 := Lib.hid h0; have HN9 := Lib.hid hn9'; have HB6 := Lib.hid hB6; have Hb6 := Lib.hid hb6; clear h0 hB6 hb6 h7 hbx hml hn9')
                  · go_still_tail 9, (by kernel_rfl)
                    change wpList _ _ _ _ _ (World.drew w6)
                    go_wp2_with (fail)
                    go_roundg (l1 ++ l2).length
                    case measure =>
                      have e1 := HL.out.1
                      rw [H0.out] at e1
                      simp at e1 ⊢
                      omega
                    case rel =>
                      refine ⟨l1 ++ l2, acc2 + n9, ⟨rfl, hit6.same (Below.heap_setCell w6 ⟨O, 3, none⟩ _ m'.In (by show m'.In ≠ O; omega)) (Below.heap_setCell w6 ⟨O, 3, none⟩ _ R2 (by show R2 ≠ O; omega)), fun p hp => HL.out.2.2.1 p (by rw [H0.out]; rcases List.mem_append.1 hp with hp | hp; exact List.mem_append_left _ hp; exact List.mem_append_right _ (List.mem_cons_of_mem _ hp)), ?_, Hb6.out.drew.setCell (p := ⟨O, 3, none⟩) hOq _⟩, ?_⟩
                      · have e1 := HL.out.2.2.2.1
                        rw [H0.out] at e1
                        have e2 := HN9.out
                        simp at e1 ⊢
                        omega
                      · have := HB6.out.drew.put 3 (.int .i64 ((acc2 : Int) + (n9 : Int)))
                        rw [show ((acc2 + n9 : Nat) : Int) = (acc2 : Int) + (n9 : Int) by omega]
                        exact this
                  · have hacc3 : acc2 = SW + TB := by
                      have := HL.out.2.2.2.1
                      rw [h0] at this
                      simpa using this
                    refine ret_blk_tmp rfl rfl Hq.out Try.underlying28 (by kernel_rfl) rfl ?_
                    rw [← Hs.out]
                    refine ⟨_, m', B, acc, acc2, m'.lI.map (·.1), rfl, Hfar.out, by have := HR.out.ZB; have := HR.out.wZ; omega, Hbq.out, HTOT.out, fun p hp => by obtain ⟨q, hq, rfl⟩ := List.mem_map.1 hp; exact HR.out.kI q hq, ?_⟩
                    rw [hacc3, HSW.out, HTB.out, List.map_map]
                    rfl
end Go.Proofs.Ytckkelppdeampaa
