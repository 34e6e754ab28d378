/- MoveArrives' walk: it returns true at every input. -/
import Derived.Test.YtckkelppdeampaaHarbMoved
import Derived.Test.YtckkelppdeampaaMvDrained
set_option linter.unusedVariables false
namespace Go.Mv
open Go.Mem
theorem rounds_ok {nodes W : Nat} (hW : 0 < W) : ∀ m, ∀ d ∈ rounds nodes m, DOk nodes W d ∧ 1 ≤ d.kind
  | 0, d, hd => by simp [rounds] at hd
  | m + 1, d, hd => by
    rw [rounds] at hd
    rcases List.mem_append.1 hd with hd | hd
    · unfold rd at hd
      obtain ⟨l, hl, hd⟩ := List.mem_flatten.1 hd
      obtain ⟨p, hp, rfl⟩ := List.mem_map.1 hl
      obtain ⟨p1, p2, p3⟩ := pairs_ok p hp
      rw [(List.mem_replicate.1 hd).2]
      exact ⟨⟨by simp [cm], p1.2, p2.2, hW, fun _ => p1.1, fun _ => p2.1⟩, by simp [cm]⟩
    · exact rounds_ok hW m d hd
theorem rounds_len {n : Nat} (h : 1 ≤ n ∧ n ≤ 3) : (rounds n 12).length ≤ 360 := by
  have := dr0_len h 12
  rw [dr0_rounds h] at this
  exact this
def putC (D : List Dv) : Nat := (D.filter fun d => decide (d.kind = 1)).length
theorem putC_next {D : List Dv} {k : Nat} (h : k < D.length) : putC (D.take (k + 1)) = putC (D.take k) + (if D[k].kind = 1 then 1 else 0) := by
  unfold putC
  rw [List.take_succ_eq_append_getElem h, List.filter_append, List.length_append]
  congr 1
  by_cases e : D[k].kind = 1 <;> simp [e]
theorem putC_le (D : List Dv) : putC D ≤ D.length := List.length_filter_le _ _
def gotC (l : List (List (Nat × Nat))) : Nat := (l.map List.length).sum
theorem gotC_next {l : List (List (Nat × Nat))} {k : Nat} (h : k < l.length) : gotC (l.take (k + 1)) = gotC (l.take k) + l[k].length := by
  unfold gotC
  rw [List.take_succ_eq_append_getElem h, List.map_append, List.sum_append]
  simp
theorem gotC_le {b : Nat} : ∀ (l : List (List (Nat × Nat))), (∀ r ∈ l, r.length ≤ b) → gotC l ≤ b * l.length
  | [], _ => by simp [gotC]
  | x :: r, h => by
    have i := gotC_le r fun y hy => h y (by simp [hy])
    have := h x (by simp)
    unfold gotC at *
    rw [List.map_cons, List.sum_cons, List.length_cons, Nat.mul_add]
    omega
theorem sum_nil {l : List (List El)} (h : ∀ c, l.getD c [] = []) : (l.map List.length).sum = 0 := by
  have : ∀ r ∈ l, r = [] := fun r hr => by
    obtain ⟨i, hi, rfl⟩ := List.mem_iff_getElem.1 hr
    have := h i
    rw [List.getD_eq_getElem?_getD, List.getElem?_eq_getElem hi] at this
    exact this
  induction l with
  | nil => rfl
  | cons x r ih =>
    rw [List.map_cons, List.sum_cons, this x (by simp)]
    have := ih (fun c => by have := h (c + 1); simpa using this) (fun y hy => this y (by simp [hy]))
    rw [this]
    rfl
theorem wsum_nil {ws : Ways} (hn : (ws.map (·.1)).Nodup) (h : ∀ a b, chan ws a b = []) : wsum List.length ws = 0 := by
  have : ∀ p ∈ ws, p.2 = [] := fun p hp => by rw [← chan_of hn hp]; exact h _ _
  unfold wsum
  induction ws with
  | nil => rfl
  | cons p r ih =>
    rw [List.map_cons, List.sum_cons, this p (by simp)]
    have hr : (r.map (·.1)).Nodup := by rw [List.map_cons, List.nodup_cons] at hn; exact hn.2
    have := ih hr (fun a b => by
      unfold chan
      cases hg : mget r (a, b) with
      | none => rfl
      | some l => exact this _ (List.mem_cons_of_mem _ (mget_mem hg))) (fun y hy => this y (by simp [hy]))
    rw [this]
    rfl
end Go.Mv
namespace Go.Proofs.Ytckkelppdeampaa
open Go.RowKit Go.Mem Go.Mv Go.Maps
theorem own_anyR {w : World} {base : Nat} {e : TypeId} {size n c : Nat} {A : Option Addr} {xs : List Value} (hz : 0 < size) (h : w.ownsRow base e size (.slice A n c) n xs) : n ≤ c ∧ c ≤ maxLen ∧ Reads w Any size A n xs := by
  obtain ⟨h1, h2, h3⟩ := own_reads hz h
  exact ⟨h1, h2, h3.imp hz fun _ _ _ => trivial⟩
set_option maxRecDepth 100000 in
set_option maxHeartbeats 8000000 in
theorem moveArrives_any (w : World) (x : Int) (hx : I64 x) (A : Option Addr) (n c : Nat) (at_ : List Int) (A2 : Option Addr) (m c2 : Nat) (l : List Fv) (hn : n = at_.length) (hc : ∀ x ∈ at_, I64 x) (hnc : n ≤ c) (hcm : c ≤ maxLen) (hr : Reads w Any 1 A n (nums at_)) (hm : m = l.length) (hmc : m ≤ c2) (hc2 : c2 ≤ maxLen) (hrd : Reads w Any 5 A2 m (fivcs l)) (hl : ∀ x ∈ l, I64V x) :
    Calls Try.prog 3 #[.int .i64 x, .slice A n c, .slice A2 m c2] w fun e w' => e = .returned (.bool true) ∧ Below w.heap.size w w' := by
  have HB := Lib.hid (harbour_any w x hx A n c at_ A2 m c2 l 8 (by omega) hn hc hnc hcm hr hm hmc hc2 hrd hl)
  have nb := ndF_bd x
  have wl := whereF_len (ndF x) at_
  have wb := whereF_bd (ndF x) (by omega) at_
  have db := deedsF_ok (ndF x) (whereF (ndF x) at_).length 8 (by omega) wl.2 l
  have dl := deedsF_len (ndF x) (whereF (ndF x) at_).length 8 l
  unfold HarbourPost at HB
  generalize deedsF (ndF x) (whereF (ndF x) at_).length 8 l = D at HB db dl
  generalize whereF (ndF x) at_ = C at HB wl wb db
  generalize ndF x = nd at HB nb wb db
  obtain ⟨wl3, wl0⟩ := wl
  have hnd := nb
  obtain ⟨nd1, nd3⟩ := nb
  have AR := Lib.hid (arrives hnd wl0 wb (fun d hd => (db d hd).1) dl)
  have hDa : ∀ d ∈ D ++ rounds nd 12, DOk nd C.length d ∧ 1 ≤ d.kind := fun d hd => by
    rcases List.mem_append.1 hd with hd | hd
    · exact db d hd
    · exact rounds_ok wl0 12 d hd
  have hDl : (D ++ rounds nd 12).length ≤ 368 := by have := rounds_len hnd; rw [List.length_append]; omega
  have Wb := Lib.hid wb
  have Da := Lib.hid hDa
  obtain ⟨W, hW⟩ : ∃ W, W = C.length := ⟨_, rfl⟩
  obtain ⟨q, hq⟩ : ∃ q, q = D.length := ⟨_, rfl⟩
  rw [← hW] at HB wl3 wl0 AR
  rw [← hq] at HB dl
  have HW := Lib.hid hW
  have Hq := Lib.hid hq
  have ND := Lib.hid hnd
  have DL := Lib.hid hDl
  clear wb db hn hc hnc hcm hr hm hmc hc2 hrd hl hx hW hq hDa hDl
  go_enter Try.func3, Try.ntmps3
  go_wp2_with (fail)
  refine HB.out.mono ?_
  rintro e w1 ⟨A1, c1, A3, c3, rfl, ho1, ho2, hb1⟩
  dsimp only
  obtain ⟨_, _, r1⟩ := own_anyR (by omega) ho1
  obtain ⟨_, _, r2⟩ := own_anyR (by omega) ho2
  have DN := Lib.hid (drained_any nd ND.out A3 q c3 D w1 r2 Hq.out (by omega))
  have HB1 := Lib.hid hb1
  have R1 := Lib.hid r1
  have R2 := Lib.hid r2
  clear HB ho1 ho2 hb1 r1 r2
  go_wp2_with (fail)
  refine DN.out.mono ?_
  rintro e w1' ⟨A4, n4, c4, rfl, hout⟩
  dsimp only
  obtain ⟨_, _, r4⟩ := own_anyR (by omega) hout.own
  have RN := Lib.hid (mvrun_any w1' nd C A1 W c1 A4 n4 c4 (D ++ rounds nd 12) ⟨nd1, by omega⟩ HW.out wl0 (by omega) Wb.out (R1.out.keep (Same.any hout.be)) hout.len (by have := hout.len; have := DL.out; omega) r4 Da.out)
  have HB1' := Lib.hid (HB1.out.trans (hout.be.mono HB1.out.size))
  have R2a := Lib.hid (R2.out.keep (Same.any (D := Any) hout.be))
  clear DN hout r4 R1 R2 HB1
  go_wp2_with (fail)
  refine RN.out.mono ?_
  rintro e w2 ⟨col, mh, B, ways, waits, K, rfl, hh, hB, hb2, hways, hK, hwaits⟩
  dsimp only
  have hcore := run_core (D ++ rounds nd 12) (new_core nd C ⟨nd1, by omega⟩ Wb.out) (fun d hd => (Da.out d hd).1)
  have hgl : (runF (newF nd C) (D ++ rounds nd 12)).got.length = W := by rw [hcore.gl, HW.out]
  have hal : (runF (newF nd C) (D ++ rounds nd 12)).at_.length = W := by rw [hcore.al, HW.out]
  have hnn : (runF (newF nd C) (D ++ rounds nd 12)).nodes = nd := by
    have : ∀ (D : List Dv) (s : Hb), (runF s D).nodes = s.nodes := by
      intro D
      induction D with
      | nil => intro s; rfl
      | cons d D ih => intro s; exact (ih _).trans (doF_nodes s d)
    exact this _ _
  have hwk := hcore.wk
  have hsz := (runs_at ⟨nd1, by omega⟩ Wb.out (fun d hd => (Da.out d hd).1) (by have := DL.out; omega) (D ++ rounds nd 12).length (Nat.le_refl _))
  have hrow : ∀ row ∈ (runF (newF nd C) (D ++ rounds nd 12)).got, row.length ≤ 10000 := by
    intro row hr
    rw [List.take_length] at hsz
    obtain ⟨k1, k2, _⟩ := hsz
    have hD4 := DL.out
    obtain ⟨b1, b2⟩ := k2
    have b3 : 402 * (D ++ rounds nd 12).length ≤ 402 * 400 := Nat.mul_le_mul_left _ (by omega)
    exact (k1.sz (by omega) (by omega) (by omega)).got row hr
  obtain ⟨a1, a2, a3, a4, a5⟩ := AR.out
  generalize runF (newF nd C) (D ++ rounds nd 12) = s at hh hgl hal hnn hwk hrow a1 a2 a3 a4 a5 hways hK hwaits ⊢
  have e1 : ways = 0 := by rw [hways]; exact wsum_nil hwk a1
  have e2 : waits = 0 := by
    rw [hwaits, sum_nil a2]
    have : ∀ K : List (Nat × Nat), (∀ p ∈ K, (1 ≤ p.1 ∧ p.1 ≤ s.nodes) ∧ p.2 < s.at_.length) → (K.map fun p => (s.box p.1 p.2).st.length).sum = 0 := by
      intro K
      induction K with
      | nil => intro _; rfl
      | cons p r ih =>
        intro hp
        obtain ⟨p1, p2⟩ := hp p (by simp)
        rw [List.map_cons, List.sum_cons, ih fun y hy => hp y (by simp [hy]), a3 p.1 p.2 p1.1 (by rw [← hnn]; exact p1.2) (by rw [← hal]; exact p2)]
        rfl
    rw [this K hK]
  subst e1
  subst e2
  rw [hgl, hal]
  have HH := Lib.hid hh
  have HB2 := Lib.hid (HB1'.out.trans (hb2.mono HB1'.out.size))
  have R2' := Lib.hid (R2a.out.keep (Same.any (D := Any) hb2))
  have Hrow := Lib.hid hrow
  have Hgl := Lib.hid hgl
  have Hal := Lib.hid hal
  have Hat := Lib.hid a4
  have Hsum := Lib.hid (show gotC s.got = putC D from a5)
  clear RN hh hB hb2 hcore hgl HB1' R2a hsz hrow hal hnn hwk a1 a2 a3 a4 a5 hways hK hwaits AR
  go_upto_region 3 with (fail)
  obtain ⟨W3, hW3⟩ : ∃ W3, W3 = w2.alloc (.cells #[.slice (some ⟨mh.GT, 0, none⟩) W mh.cG, .slice (some ⟨mh.AT, 0, none⟩) W mh.cA, .int .i64 0, .int .i64 0] 28) := ⟨_, rfl⟩
  rw [← hW3]
  have hO : Blk W3 w2.heap.size 28 [.slice (some ⟨mh.GT, 0, none⟩) W mh.cG, .slice (some ⟨mh.AT, 0, none⟩) W mh.cA, .int .i64 0, .int .i64 0] := by rw [hW3]; exact Blk.new w2 _ _
  have hb3 : Below w2.heap.size w2 W3 := by rw [hW3]; exact (Below.refl _ _).alloc (Nat.le_refl _) _
  obtain ⟨O, hOe⟩ : ∃ O, O = w2.heap.size := ⟨_, rfl⟩
  rw [← hOe] at hO ⊢
  clear hW3
  go_wp2_with (fail)
  refine (moved_any W3).mono ?_
  rintro e w4 ⟨rfl, hb4⟩
  dsimp only
  have hO4 := hO.below hb4 hO.lt
  have hb24 : Below w2.heap.size w2 w4 := hb3.trans (hb4.mono hb3.size)
  have o0 := hO4.cell 0
  have o1 := hO4.cell 1
  have o2 := hO4.cell 2
  have o3 := hO4.cell 3
  simp only [List.getElem?_cons_zero, List.getElem?_cons_succ] at o0 o1 o2 o3
  have lO := hO4.lt
  have d1 : ((W : Int) != (W : Int)) = false := by simp
  have d1' : (W != W) = false := by simp
  have HB24 := Lib.hid hb24
  have HO4 := Lib.hid hO4
  have R24 := Lib.hid (R2'.out.keep (Same.any (D := Any) hb24))
  clear hO hb3 hOe hb4 hO4 hb24
  go_wp2_with (fail)
  clear d1 d1' o0 o1 o2 o3 lO
  go_loopw [12, 61] (fun s12 i wr => ∃ k, k ≤ q ∧ i = .int .i64 (k : Nat) ∧ s12 = .int .i64 (putC (D.take k) : Nat) ∧ Hid (Below w4.heap.size w4 wr)) (fun _ i _ => q - (intOf i).toNat)
  case atStart => exact ⟨0, Nat.zero_le _, rfl, rfl, Below.refl _ _⟩
  case round =>
    obtain ⟨k, hk, rfl, rfl, HK⟩ := hrel
    by_cases hlt : k < q
    · have hkl : k < D.length := by have := Hq.out; omega
      obtain ⟨b, off, rfl, _, hcell⟩ := (R24.out.keep (Same.any (D := Any) HK.out)).2 (by omega)
      have hat := fun (i : Nat) (hi : i < 5) (u : Value) (hu : (dvc D[k])[i]? = some u) => hcell (k * 5 + i) u (by rw [dvcs_at D k i hkl hi]; exact hu)
      have hnx := Lib.hid (putC_next hkl)
      have hpl := putC_le (D.take k)
      have hpl2 : putC (D.take k) ≤ 8 := by have : (D.take k).length ≤ k := List.length_take_le _ _; omega
      generalize D[k] = d at hat hnx
      have g0 := hat 0 (by omega) _ rfl
      have g1 := hat 1 (by omega) _ rfl
      have g2 := hat 2 (by omega) _ rfl
      have g3 := hat 3 (by omega) _ rfl
      have g4 := hat 4 (by omega) _ rfl
      simp only [Nat.add_zero, ← Nat.add_assoc] at g0 g1 g2 g3 g4
      have lb := lt_of_cell g0
      have hb5 := Lib.hid (fun o => HK.out.alloc HK.out.size o)
      generalize putC (D.take k) = p at hnx hpl2 ⊢
      generalize hp1 : putC (D.take (k + 1)) = p1 at hnx
      have HP1 := Lib.hid hp1
      clear hcell hat hp1 hpl
      by_cases h1 : d.kind = 1
      · have e1 : p1 = p + 1 := by have := hnx.out; rw [if_pos h1] at this; exact this
        have ed : ((p : Int) + 1) = ((p1 : Nat) : Int) := by omega
        have t1 : (((d.kind : Nat) : Int) == 1) = true := by simp; omega
        clear e1 h1
        go_wp2_with (fail)
        exact ⟨⟨k + 1, by omega, by go_num, by rw [HP1.out], hb5.out _⟩, by simp [intOf]; omega⟩
      · have e1 : p1 = p := by have := hnx.out; rw [if_neg h1] at this; exact this
        have t1 : (((d.kind : Nat) : Int) == 1) = false := by simp; omega
        subst e1
        clear h1
        go_wp2_with (fail)
        exact ⟨⟨k + 1, by omega, by go_num, by rw [HP1.out], hb5.out _⟩, by simp [intOf]; omega⟩
    · have hks : D.take k = D := List.take_of_length_le (by have := Hq.out; omega)
      rw [hks]
      have hp8 : putC D ≤ 8 := by have := putC_le D; have := Hq.out; omega
      obtain ⟨wo, hwo⟩ : ∃ wo, wo = wr := ⟨_, rfl⟩
      rw [← hwo] at HK ⊢
      have HB25 := Lib.hid (HB24.out.trans (HK.out.mono HB24.out.size))
      have hO5 := HO4.out.below HK.out HO4.out.lt
      have o0 := hO5.cell 0
      simp only [List.getElem?_cons_zero] at o0
      have lO := hO5.lt
      have HO5 := Lib.hid hO5
      clear hO5 hwo hks
      go_wp2_with (fail)
      clear o0 lO
      go_loopw [13, 74] (fun s13 i wz => ∃ j, j ≤ W ∧ i = .int .i64 (j : Nat) ∧ s13 = .int .i64 (gotC (s.got.take j) : Nat) ∧ Hid (Below wo.heap.size wo wz)) (fun _ i _ => W - (intOf i).toNat)
      case atStart => exact ⟨0, Nat.zero_le _, rfl, rfl, Below.refl _ _⟩
      case round =>
        obtain ⟨j, hj, rfl, rfl, HJ⟩ := hrel
        rename World => wz
        by_cases hltj : j < W
        · have hjg : j < s.got.length := by rw [Hgl.out]; exact hltj
          have hja : j < s.at_.length := by rw [Hal.out]; exact hltj
          obtain ⟨v, hv, hsg⟩ := HH.out.eG j _ (List.getElem?_eq_getElem hjg)
          obtain ⟨A5, c5, rfl, hlc5, _, hrd5⟩ := own_reads2 hsg
          have hrl := Hrow.out _ (List.getElem_mem hjg)
          have hnx := Lib.hid (gotC_next hjg)
          have hgb := gotC_le (b := 10000) (s.got.take j) fun r hr => Hrow.out r (List.mem_of_mem_take hr)
          have hgb2 : gotC (s.got.take j) ≤ 40000 := by have : (s.got.take j).length ≤ j := List.length_take_le _ _; omega
          have hB2z := HB25.out.trans (HJ.out.mono HB25.out.size)
          have gv := (hB2z.cell (p := ⟨mh.GT, j, none⟩) HH.out.hG.lt).trans ((HH.out.hG.cell j).trans hv)
          have lG : mh.GT < wz.heap.size := by have := HH.out.hG.lt; have := hB2z.size; omega
          have hav : mh.curA[j]? = some (.int .i64 (s.at_.getD j 0 : Nat)) := by
            have e1 := congrArg (fun l => l[j]?) HH.out.eA
            simp only [List.getElem?_take, if_pos hja] at e1
            rw [e1, natv_at _ _ hja, List.getD_eq_getElem?_getD, List.getElem?_eq_getElem hja]
            rfl
          have ga := (hB2z.cell (p := ⟨mh.AT, j, none⟩) HH.out.hA.lt).trans ((HH.out.hA.cell j).trans hav)
          have lA : mh.AT < wz.heap.size := by have := HH.out.hA.lt; have := hB2z.size; omega
          have hO6 := HO5.out.below HJ.out HO5.out.lt
          have o1 := hO6.cell 1
          simp only [List.getElem?_cons_zero, List.getElem?_cons_succ] at o1
          have lO := hO6.lt
          obtain ⟨p1, p2⟩ := Hat.out j (by have := hltj; omega)
          generalize s.at_.getD j 0 = p at ga p1 p2
          have t1 : decide ((p : Int) < 1) = false := by simp; omega
          have t2 : decide ((p : Int) > (nd : Int)) = false := by simp; omega
          have t2' : decide (p > nd) = false := by simp; omega
          have t2'' : decide (nd < p) = false := by simp; omega
          generalize s.got[j].length = r at gv hrl hnx
          generalize gotC (s.got.take j) = g at hnx hgb2 ⊢
          generalize hp1 : gotC (s.got.take (j + 1)) = g1 at hnx
          have HP1 := Lib.hid hp1
          have e1 := hnx.out
          have ed : ((g : Int) + (r : Int)) = ((g1 : Nat) : Int) := by omega
          clear hv hsg hrd5 hgb hB2z hav hO6 hp1 hnx e1 hlc5
          go_wp2_with (fail)
          exact ⟨⟨j + 1, by omega, by go_num, by rw [HP1.out], HJ.out⟩, by simp [intOf]; omega⟩
        · have hks : s.got.take j = s.got := List.take_of_length_le (by have := Hgl.out; omega)
          rw [hks, Hsum.out]
          go_wp2_with (fail)
          go_ret
          exact ⟨rfl, HB2.out.trans ((HB25.out.trans (HJ.out.mono HB25.out.size)).mono HB2.out.size)⟩
end Go.Proofs.Ytckkelppdeampaa
