/- MoveOrder's walk: it returns true at every input. -/
import Derived.Test.YtpnhmplinkakbaaHarbMoved
import Derived.Test.YtpnhmplinkakbaaHarbour
import Derived.Test.YtpnhmplinkakbaaSlice
set_option linter.unusedVariables false
namespace Go.Mv
open Go.Mem
def sentK (who node : Nat) (D : List Dv) : List Nat := (D.filter fun d => decide (d.kind = 1) && decide (d.who = who) && decide (d.src = node)).map (·.n)
def cameK (node : Nat) (row : List (Nat × Nat)) : List Nat := (row.filter fun g => decide (g.1 = node)).map (·.2)
theorem sentK_next (who node : Nat) (D : List Dv) (k : Nat) (h : k < D.length) : sentK who node (D.take (k + 1)) = if D[k].kind = 1 ∧ D[k].who = who ∧ D[k].src = node then sentK who node (D.take k) ++ [D[k].n] else sentK who node (D.take k) := by
  unfold sentK
  rw [List.take_succ_eq_append_getElem h, List.filter_append, List.map_append]
  by_cases e : D[k].kind = 1 ∧ D[k].who = who ∧ D[k].src = node
  · rw [if_pos e]
    obtain ⟨e1, e2, e3⟩ := e
    simp [e1, e2, e3]
  · rw [if_neg e]
    have : (decide (D[k].kind = 1) && decide (D[k].who = who) && decide (D[k].src = node)) = false := by
      rw [Bool.eq_false_iff]
      intro h
      simp only [Bool.and_eq_true, decide_eq_true_eq] at h
      exact e ⟨h.1.1, h.1.2, h.2⟩
    simp [this]
theorem cameK_next (node : Nat) (row : List (Nat × Nat)) (k : Nat) (h : k < row.length) : cameK node (row.take (k + 1)) = if row[k].1 = node then cameK node (row.take k) ++ [row[k].2] else cameK node (row.take k) := by
  unfold cameK
  rw [List.take_succ_eq_append_getElem h, List.filter_append, List.map_append]
  by_cases e : row[k].1 = node <;> simp [e]
theorem sentK_len (who node : Nat) (D : List Dv) : (sentK who node D).length ≤ D.length := by
  unfold sentK
  rw [List.length_map]
  exact List.length_filter_le _ _
theorem cameK_len (node : Nat) (row : List (Nat × Nat)) : (cameK node row).length ≤ row.length := by
  unfold cameK
  rw [List.length_map]
  exact List.length_filter_le _ _
theorem order2 {nodes : Nat} {C : List Nat} {D : List Dv} (h1 : 1 ≤ nodes ∧ nodes ≤ 8) (hC : ∀ c ∈ C, 1 ≤ c ∧ c ≤ nodes) (hD : ∀ d ∈ D, DOk nodes C.length d) {w : Nat} {row : List (Nat × Nat)} (hr : (runF (newF nodes C) D).got[w]? = some row) {a : Nat} (ha : 1 ≤ a ∧ a ≤ nodes) :
    (cameK a row).length ≤ (sentK w a D).length ∧ cameK a row = (sentK w a D).take (cameK a row).length := by
  obtain ⟨k, hk, e⟩ := order h1 hC hD hr ha
  have e' : cameK a row = (sentK w a D).take k := e
  have hk' : k ≤ (sentK w a D).length := hk
  have hl : (cameK a row).length = k := by rw [e', List.length_take, Nat.min_eq_left hk']
  rw [hl]
  exact ⟨hk', e'⟩
end Go.Mv
namespace Go.Proofs.Ytpnhmplinkakbaa
open Go.RowKit Go.Mem Go.Mv Go.Maps
theorem natv_nums (l : List Nat) : natv l = nums (nInt l) := (nums_nInt l).symm
theorem own_any {w : World} {base : Nat} {e : TypeId} {size n c : Nat} {A : Option Addr} {xs : List Value} (hz : 0 < size) (h : w.ownsRow base e size (.slice A n c) n xs) : n ≤ c ∧ c ≤ maxLen ∧ Reads w Any size A n xs := by
  obtain ⟨h1, h2, h3⟩ := own_reads hz h
  exact ⟨h1, h2, h3.imp hz fun _ _ _ => trivial⟩
theorem reads_new2 (w : World) (o : Obj) (cs : List Value) (size n : Nat) (e : TypeId) (hl : cs.length = n * size) : Reads ((w.alloc o).alloc (.cells cs.toArray e)) Any size (some ⟨w.heap.size + 1, 0, none⟩) n cs := by
  have := Reads.new (D := Any) (w.alloc o) cs size n e trivial hl
  rwa [show (w.alloc o).heap.size = w.heap.size + 1 by simp] at this
set_option maxRecDepth 100000 in
set_option maxHeartbeats 4000000 in
theorem moveOrder_any (w : World) (x : Int) (hx : I64 x) (A : Option Addr) (n c : Nat) (at_ : List Int) (A2 : Option Addr) (m c2 : Nat) (l : List Fv) (hn : n = at_.length) (hc : ∀ x ∈ at_, I64 x) (hnc : n ≤ c) (hcm : c ≤ maxLen) (hr : Reads w Any 1 A n (nums at_)) (hm : m = l.length) (hmc : m ≤ c2) (hc2 : c2 ≤ maxLen) (hrd : Reads w Any 5 A2 m (fivcs l)) (hl : ∀ x ∈ l, I64V x) :
    Calls Try.prog 4 #[.int .i64 x, .slice A n c, .slice A2 m c2] w fun e w' => e = .returned (.bool true) ∧ Below w.heap.size w w' := by
  have HB := Lib.hid (harbour_any w x hx A n c at_ A2 m c2 l 150 (by omega) hn hc hnc hcm hr hm hmc hc2 hrd hl)
  have nb := ndF_bd x
  have wl := whereF_len (ndF x) at_
  have wb := whereF_bd (ndF x) (by omega) at_
  have db := deedsF_ok (ndF x) (whereF (ndF x) at_).length 150 (by omega) wl.2 l
  have dl := deedsF_len (ndF x) (whereF (ndF x) at_).length 150 l
  unfold HarbourPost at HB
  generalize deedsF (ndF x) (whereF (ndF x) at_).length 150 l = D at HB db dl
  generalize whereF (ndF x) at_ = C at HB wl wb db
  generalize ndF x = nd at HB nb wb db
  obtain ⟨wl3, wl0⟩ := wl
  obtain ⟨nd1, nd3⟩ := nb
  have Wb := Lib.hid wb
  have Db := Lib.hid db
  obtain ⟨W, hW⟩ : ∃ W, W = C.length := ⟨_, rfl⟩
  obtain ⟨q, hq⟩ : ∃ q, q = D.length := ⟨_, rfl⟩
  rw [← hW] at HB wl3 wl0 Db
  rw [← hq] at HB dl
  have HW := Lib.hid hW
  have Hq := Lib.hid hq
  clear wb db hn hc hnc hcm hr hm hmc hc2 hrd hl hx hW hq
  go_enter Try.func4, Try.ntmps4
  go_wp2_with (fail)
  refine HB.out.mono ?_
  rintro e w1 ⟨A1, c1, A3, c3, rfl, ho1, ho2, hb1⟩
  dsimp only
  obtain ⟨_, _, r1⟩ := own_any (by omega) ho1
  obtain ⟨_, _, r2⟩ := own_any (by omega) ho2
  have RN := Lib.hid (mvrun_any w1 nd C A1 W c1 A3 q c3 D ⟨nd1, by omega⟩ HW.out wl0 (by omega) Wb.out r1 Hq.out (by omega) r2 (by rw [← HW.out]; exact Db.out))
  have HB1 := Lib.hid hb1
  have R2 := Lib.hid r2
  clear HB ho1 ho2 hb1 r1 r2
  go_wp2_with (fail)
  refine RN.out.mono ?_
  rintro e w2 ⟨col, mh, B, ways, waits, K, rfl, hh, hB, hb2, -⟩
  dsimp only
  have hcore := run_core D (new_core nd C ⟨nd1, by omega⟩ Wb.out) (fun d hd => by rw [← HW.out]; exact (Db.out d hd).1)
  have hgl : (runF (newF nd C) D).got.length = W := by rw [hcore.gl, HW.out]
  have hord := fun who row (h : (runF (newF nd C) D).got[who]? = some row) a ha => order2 ⟨nd1, by omega⟩ Wb.out (fun d hd => by rw [← HW.out]; exact (Db.out d hd).1) h (a := a) ha
  have hsz := (runs_at ⟨nd1, by omega⟩ Wb.out (fun d hd => by rw [← HW.out]; exact (Db.out d hd).1) (by have := Hq.out; omega) q (by rw [Hq.out]; exact Nat.le_refl _))
  have hrow : ∀ (who : Nat) (row : List (Nat × Nat)), (runF (newF nd C) D).got[who]? = some row → row.length ≤ 10000 := by
    intro who row hr
    have e : D.take q = D := List.take_of_length_le (by rw [Hq.out]; exact Nat.le_refl _)
    rw [e] at hsz
    obtain ⟨k1, k2, _⟩ := hsz
    obtain ⟨b1, b2⟩ := k2
    have b3 : 402 * q ≤ 402 * 400 := Nat.mul_le_mul_left _ (by omega)
    exact (k1.sz (by omega) (by omega) (by omega)).got row (List.mem_of_getElem? hr)
  rw [hgl]
  generalize hS : runF (newF nd C) D = s at hh hgl hord hrow ⊢
  have HH := Lib.hid hh
  have HB2 := Lib.hid (HB1.out.trans (hb2.mono HB1.out.size))
  have R2' := Lib.hid (R2.out.keep (Same.any (D := Any) hb2))
  have Hord := Lib.hid hord
  have Hrow := Lib.hid hrow
  have Hgl := Lib.hid hgl
  clear RN hh hB hb2 hcore hgl hord hS HB1 R2 hsz hrow
  go_wp2_with (fail)
  obtain ⟨W3, hW3⟩ : ∃ W3, W3 = w2.alloc (.cells #[.slice (some ⟨mh.GT, 0, none⟩) W mh.cG, .slice (some ⟨mh.AT, 0, none⟩) s.at_.length mh.cA, .int .i64 (ways : Nat), .int .i64 (waits : Nat)] 40) := ⟨_, rfl⟩
  rw [← hW3]
  have hO : Blk W3 w2.heap.size 40 [.slice (some ⟨mh.GT, 0, none⟩) W mh.cG, .slice (some ⟨mh.AT, 0, none⟩) s.at_.length mh.cA, .int .i64 (ways : Nat), .int .i64 (waits : Nat)] := by rw [hW3]; exact Blk.new w2 _ _
  have hb3 : Below w2.heap.size w2 W3 := by rw [hW3]; exact (Below.refl _ _).alloc (Nat.le_refl _) _
  obtain ⟨O, hOe⟩ : ∃ O, O = w2.heap.size := ⟨_, rfl⟩
  rw [← hOe] at hO ⊢
  clear hW3
  refine (moved_any W3).mono ?_
  rintro e w4 ⟨rfl, hb4⟩
  dsimp only
  have hO4 := hO.below hb4 hO.lt
  have hb24 : Below w2.heap.size w2 w4 := hb3.trans (hb4.mono hb3.size)
  have o0 := hO4.cell 0
  simp only [List.getElem?_cons_zero] at o0
  have lO := hO4.lt
  have d1 : ((W : Int) != (W : Int)) = false := by simp
  have d1' : (W != W) = false := by simp
  have HB24 := Lib.hid hb24
  have HO4 := Lib.hid hO4
  clear hO hb3 hOe hb4 hO4 hb24
  go_wp2_with (fail)
  clear d1 d1'
  go_loopw [53] (fun i wr => ∃ k, k ≤ W ∧ i = .int .i64 (k : Nat) ∧ Hid (Below w4.heap.size w4 wr)) (fun i _ => W - (intOf i).toNat)
  case atStart => exact ⟨0, Nat.zero_le _, rfl, Below.refl _ _⟩
  case round =>
    obtain ⟨k, hk, rfl, HK⟩ := hrel
    by_cases hlt : k < W
    · have hkg : k < s.got.length := by rw [Hgl.out]; exact hlt
      obtain ⟨v, hv, hsg⟩ := HH.out.eG k _ (List.getElem?_eq_getElem hkg)
      obtain ⟨A5, c5, rfl, hlc5, _, hrd5⟩ := own_reads2 hsg
      have hrl := Hrow.out k _ (List.getElem?_eq_getElem hkg)
      have hordk := fun a ha => Hord.out k _ (List.getElem?_eq_getElem hkg) a ha
      obtain ⟨row, hrw⟩ : ∃ row, row = s.got[k] := ⟨_, rfl⟩
      rw [← hrw] at hv hrd5 hrl hordk
      obtain ⟨r, hre⟩ : ∃ r, r = row.length := ⟨_, rfl⟩
      rw [← hre] at hv hrd5 hrl
      have gv := (HK.out.cell (p := ⟨mh.GT, k, none⟩) (by have := HH.out.hG.lt; have := HB24.out.size; show mh.GT < _; omega)).trans ((HB24.out.cell (p := ⟨mh.GT, k, none⟩) HH.out.hG.lt).trans ((HH.out.hG.cell k).trans hv))
      have lG : mh.GT < wr.heap.size := by have := HH.out.hG.lt; have := HB24.out.size; have := HK.out.size; omega
      have HR5 := Lib.hid (hrd5.keep (Same.any (D := Any) HB24.out))
      have Hordk := Lib.hid hordk
      have Hre := Lib.hid hre
      obtain ⟨wo, hwo⟩ : ∃ wo, wo = wr := ⟨_, rfl⟩
      subst hwo
      clear hv hsg hrd5 hordk hrw hre hlc5 o0 lO
      go_wp2_with (fail)
      clear gv lG
      go_loopw [14] (fun v14 wr => ∃ a, 1 ≤ a ∧ a ≤ nd + 1 ∧ v14 = .int .i64 (a : Nat) ∧ Hid (Below w4.heap.size w4 wr)) (fun v14 _ => nd + 1 - (intOf v14).toNat)
      case atStart => exact ⟨1, by omega, by omega, rfl, HK.out⟩
      case round =>
        obtain ⟨a, ha1, ha2, rfl, HA⟩ := hrel
        clear HK
        by_cases hla : a ≤ nd
        · have hod := Hordk.out a ⟨ha1, hla⟩
          have Hod := Lib.hid hod
          have R24 := Lib.hid ((R2'.out.keep (Same.any (D := Any) HB24.out)).keep (Same.any (D := Any) HA.out))
          have R54 := Lib.hid (HR5.out.keep (Same.any (D := Any) HA.out))
          obtain ⟨wp, hwp⟩ : ∃ wp, wp = wr := ⟨_, rfl⟩
          subst hwp
          clear hod
          go_wp2_with (fail)
          go_loopw [15, 65] (fun v15 i wr => ∃ j A6 c6, j ≤ q ∧ i = .int .i64 (j : Nat) ∧ v15 = .slice A6 (sentK k a (D.take j)).length c6 ∧ Hid (wr.ownsRow wp.heap.size 3 1 (.slice A6 (sentK k a (D.take j)).length c6) (sentK k a (D.take j)).length (natv (sentK k a (D.take j))) ∧ Below wp.heap.size wp wr)) (fun _ i _ => q - (intOf i).toNat)
          case atStart => exact ⟨0, none, 0, Nat.zero_le _, rfl, by simp [sentK], by simpa [sentK, natv] using World.ownsRow_nil _ _ _ _, Below.refl _ _⟩
          case round =>
            obtain ⟨j, A6, c6, hj, rfl, rfl, HJ⟩ := hrel
            by_cases hlj : j < q
            · have hjl : j < D.length := by have := Hq.out; omega
              obtain ⟨b, off, rfl, _, hcell⟩ := R24.out.2 (by omega)
              have hs := Same.any (D := Any) HJ.out.2
              have hat := fun (i : Nat) (hi : i < 5) (u : Value) (hu : (dvc D[j])[i]? = some u) => hs.cell trivial (hcell (j * 5 + i) u (by rw [dvcs_at D j i hjl hi]; exact hu))
              have HN := Lib.hid (sentK_next k a D j hjl)
              have hsl := sentK_len k a (D.take j)
              have hdj : (D.take j).length ≤ 150 := by rw [List.length_take]; omega
              generalize D[j] = d at hat HN
              obtain ⟨kd, fr, tt, wh, nn⟩ := d
              generalize sentK k a (D.take j) = ss at HJ HN hsl
              have g0 := hat 0 (by omega) _ rfl
              have g1 := hat 1 (by omega) _ rfl
              have g2 := hat 2 (by omega) _ rfl
              have g3 := hat 3 (by omega) _ rfl
              have g4 := hat 4 (by omega) _ rfl
              simp only [Nat.add_zero, ← Nat.add_assoc] at g0 g1 g2 g3 g4
              have lb := lt_of_cell g0
              clear hcell hs hat
              by_cases e1 : kd = 1
              · subst e1
                by_cases e2 : wh = k
                · subst e2
                  by_cases e3 : fr = a
                  · subst e3
                    go_wp2_with (at_builtin; refine app_int _ rfl (.tmp 84) (.tmp 87) rfl ((HJ.out.1.alloc _).alloc _) rfl (reads_new2 _ _ [.int .i64 (nn : Nat)] 1 1 _ rfl) rfl (by simp [Value.oneCell']) (by omega) (by have := HJ.out.2.size; simp; omega) ?_; intro v2 w7 hown2 hg2 hat2; obtain ⟨A9, c9, rfl, _⟩ := own_form hown2)
                    have hb7 : Below wp.heap.size wp w7 := ((HJ.out.2.alloc HJ.out.2.size _).alloc (by have := HJ.out.2.size; simp; omega) _).grown hg2 (by have := HJ.out.2.size; simp; omega) (fun b hb => (HJ.out.1.lt b hb).1)
                    have el : (ss ++ [nn]).length = ss.length + 1 := by simp
                    refine ⟨⟨j + 1, A9, c9, by omega, by go_num, by rw [HN.out, if_pos ⟨rfl, rfl, rfl⟩, el], ?_⟩, by simp [intOf]; omega⟩
                    rw [HN.out, if_pos ⟨rfl, rfl, rfl⟩, el, natv_snoc]
                    exact ⟨hown2, hb7⟩
                  · have f1 : ((fr : Int) == (a : Int)) = false := by simp; omega
                    have f2 : (fr == a) = false := by simp; omega
                    go_wp2_with (fail)
                    refine ⟨⟨j + 1, A6, c6, by omega, by go_num, by rw [HN.out, if_neg (fun h => e3 h.2.2)], ?_⟩, by simp [intOf]; omega⟩
                    rw [HN.out, if_neg (fun h => e3 h.2.2)]
                    exact ⟨own_keepH HJ.out.1 fun b hb => Below.heap_alloc _ _ b (HJ.out.1.lt b hb).2, HJ.out.2.alloc HJ.out.2.size _⟩
                · have f1 : ((wh : Int) == (k : Int)) = false := by simp; omega
                  have f2 : (wh == k) = false := by simp; omega
                  go_wp2_with (fail)
                  refine ⟨⟨j + 1, A6, c6, by omega, by go_num, by rw [HN.out, if_neg (fun h => e2 h.2.1)], ?_⟩, by simp [intOf]; omega⟩
                  rw [HN.out, if_neg (fun h => e2 h.2.1)]
                  exact ⟨own_keepH HJ.out.1 fun b hb => Below.heap_alloc _ _ b (HJ.out.1.lt b hb).2, HJ.out.2.alloc HJ.out.2.size _⟩
              · have f1 : ((kd : Int) == 1) = false := by simp; omega
                have f2 : (kd == 1) = false := by simp; omega
                go_wp2_with (fail)
                refine ⟨⟨j + 1, A6, c6, by omega, by go_num, by rw [HN.out, if_neg (fun h => e1 h.1)], ?_⟩, by simp [intOf]; omega⟩
                rw [HN.out, if_neg (fun h => e1 h.1)]
                exact ⟨own_keepH HJ.out.1 fun b hb => Below.heap_alloc _ _ b (HJ.out.1.lt b hb).2, HJ.out.2.alloc HJ.out.2.size _⟩
            · obtain rfl : j = q := by omega
              have hall : D.take j = D := List.take_of_length_le (by have := Hq.out; omega)
              rw [hall] at HJ ⊢
              obtain ⟨ss, hss⟩ : ∃ ss, ss = sentK k a D := ⟨_, rfl⟩
              rw [← hss] at HJ ⊢
              have Hss := Lib.hid hss
              have hsl : ss.length ≤ 150 := by rw [hss]; have := sentK_len k a D; have := Hq.out; omega
              have R54' := Lib.hid (R54.out.keep (Same.any (D := Any) HJ.out.2))
              obtain ⟨wt, hwt⟩ : ∃ wt, wt = wr := ⟨_, rfl⟩
              subst hwt
              clear hall hss
              go_wp2_with (fail)
              go_loopw [16, 92] (fun v16 i wr => ∃ j A7 c7, j ≤ r ∧ i = .int .i64 (j : Nat) ∧ v16 = .slice A7 (cameK a (row.take j)).length c7 ∧ Hid (wr.ownsRow wt.heap.size 3 1 (.slice A7 (cameK a (row.take j)).length c7) (cameK a (row.take j)).length (natv (cameK a (row.take j))) ∧ Below wt.heap.size wt wr)) (fun _ i _ => r - (intOf i).toNat)
              case atStart => exact ⟨0, none, 0, Nat.zero_le _, rfl, by simp [cameK], by simpa [cameK, natv] using World.ownsRow_nil _ _ _ _, Below.refl _ _⟩
              case round =>
                obtain ⟨i, A7, c7, hi, rfl, rfl, HI⟩ := hrel
                by_cases hli : i < r
                · have hil : i < row.length := by have := Hre.out; omega
                  obtain ⟨b, off, rfl, _, hcell⟩ := R54'.out.2 (by omega)
                  have hs := Same.any (D := Any) HI.out.2
                  have hat := fun (y : Nat) (hy : y < 2) (u : Value) (hu : (gtc row[i])[y]? = some u) => hs.cell trivial (hcell (i * 2 + y) u (by rw [gtcs_at row i y hil hy]; exact hu))
                  have HN := Lib.hid (cameK_next a row i hil)
                  have hcl := cameK_len a (row.take i)
                  have hdj : (row.take i).length ≤ 10000 := by rw [List.length_take]; omega
                  generalize row[i] = g at hat HN
                  obtain ⟨gf, gn⟩ := g
                  generalize cameK a (row.take i) = cs at HI HN hcl
                  have g0 := hat 0 (by omega) _ rfl
                  have g1 := hat 1 (by omega) _ rfl
                  simp only [Nat.add_zero, ← Nat.add_assoc] at g0 g1
                  have lb := lt_of_cell g0
                  clear hcell hs hat
                  by_cases e1 : gf = a
                  · subst e1
                    go_wp2_with (at_builtin; refine app_int _ rfl (.tmp 100) (.tmp 103) rfl ((HI.out.1.alloc _).alloc _) rfl (reads_new2 _ _ [.int .i64 (gn : Nat)] 1 1 _ rfl) rfl (by simp [Value.oneCell']) (by omega) (by have := HI.out.2.size; simp; omega) ?_; intro v2 w7 hown2 hg2 hat2; obtain ⟨A9, c9, rfl, _⟩ := own_form hown2)
                    have hb7 : Below wt.heap.size wt w7 := ((HI.out.2.alloc HI.out.2.size _).alloc (by have := HI.out.2.size; simp; omega) _).grown hg2 (by have := HI.out.2.size; simp; omega) (fun b hb => (HI.out.1.lt b hb).1)
                    have el : (cs ++ [gn]).length = cs.length + 1 := by simp
                    refine ⟨⟨i + 1, A9, c9, by omega, by go_num, by rw [HN.out, if_pos rfl, el], ?_⟩, by simp [intOf]; omega⟩
                    rw [HN.out, if_pos rfl, el, natv_snoc]
                    exact ⟨hown2, hb7⟩
                  · have f1 : ((gf : Int) == (a : Int)) = false := by simp; omega
                    have f2 : (gf == a) = false := by simp; omega
                    go_wp2_with (fail)
                    refine ⟨⟨i + 1, A7, c7, by omega, by go_num, by rw [HN.out, if_neg e1], ?_⟩, by simp [intOf]; omega⟩
                    rw [HN.out, if_neg e1]
                    exact ⟨own_keepH HI.out.1 fun b hb => Below.heap_alloc _ _ b (HI.out.1.lt b hb).2, HI.out.2.alloc HI.out.2.size _⟩
                · obtain rfl : i = r := by omega
                  have hall : row.take i = row := List.take_of_length_le (by have := Hre.out; omega)
                  rw [hall] at HI ⊢
                  have hod := Hod.out
                  rw [← Hss.out] at hod
                  generalize cameK a row = cs at HI hod ⊢
                  obtain ⟨hle, heq⟩ := hod
                  obtain ⟨_, _, rc⟩ := own_any (by omega) HI.out.1
                  obtain ⟨hsc, _, rs0⟩ := own_any (by omega) HJ.out.1
                  have rsw := rs0.keep (Same.any (D := Any) HI.out.2)
                  rw [natv_nums] at rc rsw
                  obtain ⟨ns, hns⟩ : ∃ ns, ns = ss.length := ⟨_, rfl⟩
                  obtain ⟨nc, hnc⟩ : ∃ nc, nc = cs.length := ⟨_, rfl⟩
                  rw [← hnc] at rc hle heq ⊢
                  rw [← hns] at rsw hsc hle hsl ⊢
                  obtain ⟨hsl1, hsl2⟩ := slice_h (P := Try.prog) (c := c6) 22 3 Try.underlying22 size_int rsw hsc nc hle (nc : Int) rfl
                  rw [Nat.mul_one, nums_take, ← show nInt (ss.take nc) = (nInt ss).take nc by simp [nInt], ← heq] at hsl2
                  have EQ := Lib.hid (equal_ints A7 A6 nc c7 nc c6 (nInt cs) (nInt cs) Any Any wr rc hsl2 (by omega) (by omega))
                  simp only [decide_true] at EQ
                  have dgt : decide ((ns : Int) < (nc : Int)) = false := by simp; omega
                  have dgt' : decide (ns < nc) = false := by simp; omega
                  have HIJ := Lib.hid (HJ.out.2.trans (HI.out.2.mono HJ.out.2.size))
                  clear hall heq rc rs0 rsw hns hnc hsl2 hsc HI
                  go_wp2_with (fail)
                  refine EQ.out.mono ?_
                  rintro e w9 ⟨rfl, hb9⟩
                  dsimp only
                  go_wp2_with (fail)
                  go_roundw
                  case rel => exact ⟨a + 1, by omega, by omega, by go_num, HA.out.trans ((HIJ.out.trans (hb9.mono HIJ.out.size)).mono HA.out.size)⟩
                  case measure => simp [intOf]; omega
        · obtain rfl : a = nd + 1 := by omega
          go_wp2_with (fail)
          go_roundw
          case rel => exact ⟨k + 1, by omega, by go_num, HA.out⟩
          case measure => simp [intOf]; omega
    · obtain rfl : k = W := by omega
      go_wp2_with (fail)
      go_ret
      exact ⟨rfl, HB2.out.trans ((HB24.out.trans (HK.out.mono HB24.out.size)).mono HB2.out.size)⟩
end Go.Proofs.Ytpnhmplinkakbaa
