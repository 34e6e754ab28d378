/- The walk of ChunkTorn: it returns true. -/
import Derived.Test.YtgcpclbkjplipaaChunkPack
import Derived.Test.YtgcpclbkjplipaaChunkScan
set_option linter.unusedVariables false
namespace Go.Proofs.Ytgcpclbkjplipaa
open Go.RowKit Go.Mem Go.Chunk

/-- what ChunkTorn packs -/
def tornX (l : List (List UInt8)) : List (List UInt8) := (l.take 20).map (·.take 40)
theorem tornX_len (l : List (List UInt8)) : (tornX l).length ≤ 20 := by simp [tornX]; omega
theorem tornX_short (l : List (List UInt8)) : ∀ p ∈ tornX l, p.length ≤ 40 := by
  intro p hp
  obtain ⟨q, _, rfl⟩ := List.mem_map.1 hp
  simp
  omega
theorem tornX_small (l : List (List UInt8)) : (packF (tornX l)).length ≤ 840 := by
  have h1 := sizeF_le _ 40 (tornX_short l)
  have h2 := tornX_len l
  rw [packF_length]
  omega
theorem tornX_yes (l : List (List UInt8)) (k : Nat) (h : k < l.length) (hk : k < 20) : tornX (l.take (k + 1)) = tornX (l.take k) ++ [l[k].take 40] := by
  simp only [tornX]
  rw [List.take_take, List.take_take, Nat.min_eq_right (by omega), Nat.min_eq_right (by omega), List.take_succ_eq_append_getElem h, List.map_append]
  rfl
theorem tornX_no (l : List (List UInt8)) (k : Nat) (hk : ¬ k < 20) : tornX (l.take (k + 1)) = tornX (l.take k) := by
  simp only [tornX]
  rw [List.take_take, List.take_take, Nat.min_eq_left (by omega), Nat.min_eq_left (by omega)]
theorem scan_four : scanF 4 [0, 1, 7, 0] = [[7]] := by decide

set_option maxRecDepth 100000 in
set_option maxHeartbeats 2000000 in
theorem torn_any (A : Option Addr) (n c : Nat) (vss : List (List Value)) (l : List (List UInt8)) (a : Int) (w : World) (hn : n = l.length) (hr : Reads w Any 1 A n vss.flatten) (hl : All2 (BytesCell w Any) vss l) (hc : n ≤ c) (hc2 : c ≤ maxLen) (ha : I64 a) :
    Calls Try.prog 3 #[.slice A n c, .int .i64 a] w fun e w' => e = .returned (.bool true) ∧ Below w.heap.size w w' := by
  unfold maxLen at hc2
  have Hn := Lib.hid hn
  clear hn
  go_enter Try.func3, Try.ntmps3
  go_wp2
  go_loopw [5, 19] (fun v i wr => ∃ k : Nat, k ≤ n ∧ i = .int .i64 k ∧ OwnList 23 1 BytesCell wr w.heap.size v (tornX (l.take k)) ∧ Below w.heap.size w wr) (fun _ i _ => n - (intOf i).toNat)
  case atStart => exact ⟨0, Nat.zero_le _, rfl, OwnList.nil _ _ _ _, Below.refl _ _⟩
  case round =>
    obtain ⟨k, hk, rfl, hown, hb⟩ := hrel
    by_cases hlt : k < n
    · have hkl : k < l.length := by have := Hn.out; omega
      obtain ⟨b, off, cs, rfl, _, ⟨u, rfl, A1, n1, c1, rfl, hn1, hc1, hr1⟩, hcell⟩ := hr.elem BytesCell.stable hl Hn.out hkl
      have hc0 : wr.cell? ⟨b, off + k, none⟩ = some (.slice A1 n1 c1) := (Same.any (D := Any) hb).cell trivial (by simpa using hcell 0 _ rfl)
      clear hcell
      by_cases h20 : k < 20
      · go_wp2_with (fail)
        refine (cut_any A1 n1 c1 (u8s l[k]) Any wr 40 (hr1.keep (Same.any hb)) (u8s_one _) hn1 hc1 (by omega)).mono ?_
        rintro e w1 ⟨A2, c2, rfl, hv2, hb1⟩
        have hb1' : Below w.heap.size w w1 := hb.trans (hb1.mono hb.size)
        have hown1 := hown.keep BytesCell.stable (Same.of_below hb1 fun _ _ h => h)
        have hlt1 := hown.lt
        rw [u8s_take] at hv2
        have hy : BytesCell w1 (fun b => w.heap.size ≤ b ∧ u5.ownBlock ≠ some b) [.slice A2 (min n1 40) c2] (l[k].take 40) :=
          ⟨_, rfl, (Bytes.of_own_new hv2).imp fun b hb' _ => ⟨by have := hb.size; omega, fun e => by have := (hlt1 b e).2; omega⟩⟩
        clear hlt1
        have hx20 := tornX_len (l.take k)
        obtain ⟨vs1, ho, ha1⟩ := hown1
        go_wp2_with (at_builtin; refine app_row _ rfl (.tmp 26) (.tmp 29) rfl (ho.alloc _) rfl (Reads.new (D := Any) _ [.slice A2 (min n1 40) c2] 1 1 _ trivial rfl) rfl (BytesCell.stable.one hy) (by omega) (by have := hb1'.size; simp; omega) ?_; intro v2 w2 hown2 hg2 hat2)
        refine ⟨⟨k + 1, by omega, by go_num, ?_, (hb1'.alloc hb1'.size _).grown hg2 (by have := hb1'.size; simp; omega) (fun k hk => (ho.lt k hk).1)⟩, by simp [intOf]; omega⟩
        rw [tornX_yes l k hkl h20]
        exact OwnList.push BytesCell.stable ha1 hy hg2 hat2 hown2
      · go_wp2
        refine ⟨⟨k + 1, by omega, by go_num, ?_, hb⟩, by simp [intOf]; omega⟩
        rw [tornX_no l k h20]
        exact hown
    · have hX : tornX (l.take k) = tornX l := by rw [List.take_of_length_le (by have := Hn.out; omega)]
      rw [hX] at hown
      clear hX
      have hX1 := tornX_len l
      have hX2 := tornX_short l
      have hX3 := tornX_small l
      generalize tornX l = X at hown hX1 hX2 hX3
      clear hr hl Hn
      obtain ⟨A1, c1, rfl, hc1, hcm1⟩ := hown.form
      unfold maxLen at hcm1
      go_wp2_with (fail)
      refine (pack_any _ X wr ((hown.listAt BytesCell.stable (by omega)).imp BytesCell.stable (by omega) fun _ _ _ => trivial) (fun p hp => by have := hX2 p hp; omega) (by omega) (by omega)).mono ?_
      rintro e w1 ⟨A2, c2, rfl, hv2, hb1⟩
      have hown1 := hown.keep BytesCell.stable (Same.of_below hb1 fun _ _ h => h)
      have hb1' : Below w.heap.size w w1 := hb.trans (hb1.mono hb.size)
      obtain ⟨hcc2, hcm2, hread1⟩ := own_reads (by omega) hv2
      generalize hL : (packF X).length = L at hv2 hcc2 hX3 hread1 ⊢
      have HL := Lib.hid hL
      clear hL
      unfold maxLen at hcm2
      go_wp2_with (fail)
      refine (scan_any _ 4 4 [0, 1, 7, 0] Any _ (Reads.new w1 _ 1 4 _ _ trivial rfl) (by omega) (by decide) (by omega)).mono ?_
      rw [scan_four, show ((sizeF [[7]] : Nat) : Int) = 3 from rfl]
      rintro e w2 ⟨A3, c3, rfl, hv3, hb2⟩
      have hb2' : Below w1.heap.size w1 w2 := ((Below.refl _ _).alloc (Nat.le_refl _) _).trans (hb2.mono (by simp))
      have hown2 := hown1.keep BytesCell.stable (Same.of_below hb2' fun _ _ h => h)
      have hread2 : Reads w2 (fun b => w.heap.size ≤ b) 1 A2 L (u8s (packF X)) :=
        (hread1.imp (by omega) fun b h _ => by have := hb.size; omega).keep (Same.any hb2')
      clear hb2 hv2 hv3
      have hbd := restI_bd a (L + 1) (by omega)
      obtain ⟨r, hr⟩ : ∃ r : Nat, restI a (L + 1) = r := ⟨(restI a (L + 1)).toNat, by omega⟩
      rw [hr] at hbd
      have Hr := Lib.hid hr
      clear hr
      go_wp2_with (fail)
      refine (rest_any a (L + 1) w2 ha (by omega) (by omega)).mono ?_
      rintro e w' ⟨rfl, rfl⟩
      rw [Hr.out]
      go_wp2_with (fail)
      have hread3 : Reads w2 (fun b => w.heap.size ≤ b) 1 A2 r (u8s ((packF X).take r)) := by
        have := hread2.first (m := r) (by omega)
        simpa [u8s_take] using this
      refine (scan_any A2 r c2 ((packF X).take r) _ w2 hread3 (by omega) (by unfold maxLen; omega) (by omega)).mono ?_
      obtain ⟨q, hq, hsc, hsz, hend⟩ := scan_take X r r (fun p hp => by have := hX2 p hp; omega) (Nat.le_refl _)
      rw [hsc]
      rintro e w3 ⟨A4, c4, rfl, hv4, hb3⟩
      have hb3' : Below w.heap.size w w3 := (hb1'.trans (hb2'.mono hb1'.size)).trans (hb3.mono (by have := hb1'.size; have := hb2'.size; omega))
      obtain ⟨vx, _, hxc, _, hxr, hxa⟩ := (hown2.keep BytesCell.stable (Same.of_below hb3 fun _ _ h => h)).reads BytesCell.stable (by omega)
      obtain ⟨vy, _, hyc, hym, hyr, hya⟩ := hv4.reads BytesCell.stable (by omega)
      have hql : (X.take q).length = q := by rw [List.length_take]; omega
      rw [hql] at hyr hyc ⊢
      generalize hT : sizeF (X.take q) = T at hsz hend ⊢
      have HT := Lib.hid hT
      have Hql := Lib.hid hql
      clear hT hql hown hown1 hown2 hv4 hread2 hread3 hsc hb1 hb2' hb3 hb1' Hr HL
      go_wp2
      go_loopw [14, 67] (fun s i wr => ∃ k : Nat, k ≤ q ∧ i = .int .i64 k ∧ s = .int .i64 (sizeF (X.take k) : Nat) ∧ Below w3.heap.size w3 wr) (fun _ i _ => q - (intOf i).toNat)
      case atStart => exact ⟨0, Nat.zero_le _, rfl, rfl, Below.refl _ _⟩
      case round =>
        obtain ⟨k2, hk2, rfl, rfl, hbr⟩ := hrel
        have hkX : k2 ≤ X.length := by omega
        by_cases hlt2 : k2 < q
        · have hkx : k2 < X.length := by omega
          have hky : k2 < (X.take q).length := by have := Hql.out; omega
          obtain ⟨bx, ox, cx, rfl, _, ⟨_, rfl, Ax, nx, ccx, rfl, hnx, hcx, hrx⟩, hcellx⟩ := hxr.elem BytesCell.stable hxa rfl hkx
          obtain ⟨bY, oy, cy, rfl, _, ⟨_, rfl, Ay, ny, ccy, rfl, hny, hcy, hry⟩, hcelly⟩ := hyr.elem BytesCell.stable hya Hql.out.symm hky
          have gx : wr.cell? ⟨bx, ox + k2, none⟩ = some (.slice Ax nx ccx) := (Same.any (D := Any) hbr).cell trivial (by simpa using hcellx 0 _ rfl)
          have gy : wr.cell? ⟨bY, oy + k2, none⟩ = some (.slice Ay ny ccy) := (Same.any (D := Any) hbr).cell trivial (by simpa using hcelly 0 _ rfl)
          have eY : (X.take q)[k2] = X[k2] := by simp
          rw [eY] at hry
          have cvx : ∀ nq, (convert 23 9 (.slice Ax nx ccx)).run Try.prog (wr.drewN nq) = .ok (.string ⟨X[k2].toArray⟩) (wr.drewN nq) := fun nq => run_convert_reads _ _ _ _ Try.underlying23 Try.underlying5 Try.underlying9 ((hrx.keep (Same.any hbr)).drewN nq)
          have cvy : ∀ nq, (convert 23 9 (.slice Ay ny ccy)).run Try.prog (wr.drewN nq) = .ok (.string ⟨X[k2].toArray⟩) (wr.drewN nq) := fun nq => run_convert_reads _ _ _ _ Try.underlying23 Try.underlying5 Try.underlying9 ((hry.keep (Same.any hbr)).drewN nq)
          have hny2 : ny = X[k2].length := by have := hry.len; rwa [u8s_length] at this
          have hny3 : ny ≤ 40 := by rw [hny2]; exact hX2 _ (List.getElem_mem hkx)
          have Hny := Lib.hid hny2
          have hT2 : sizeF (X.take k2) ≤ 840 := by
            have h1 := sizeF_le (X.take k2) 40 (fun p hp => hX2 p (List.mem_of_mem_take hp))
            have h2 : (X.take k2).length ≤ 20 := by rw [List.length_take]; omega
            omega
          clear hny2 eY hcellx hcelly hxr hyr hxa hya hrx hry
          generalize hS : (⟨X[k2].toArray⟩ : ByteArray) = S at cvx cvy
          clear hS
          have hd1 : decide (X.length ≤ k2) = false := by simp; omega
          have hd2 : decide ((X.length : Int) ≤ (k2 : Int)) = false := by simp; omega
          go_wp2
          go_quiet (fail)
          go_wp2
          have e1 : sizeF (X.take (k2 + 1)) = sizeF (X.take k2) + (2 + ny) := by
            rw [List.take_succ_eq_append_getElem hkx, sizeF_append, Hny.out]
            simp [sizeF]
          refine ⟨⟨k2 + 1, by omega, by go_num, by rw [e1]; go_num, ⟨hbr.os, hbr.tape, hbr.output, hbr.size, hbr.block⟩⟩, by simp [intOf]; omega⟩
        · obtain rfl : q = k2 := by omega
          have HT2 := HT.out
          rw [HT2]
          have hTr : T ≤ 840 := by omega
          have hTT : ((T : Int) == (T : Int)) = true := by simp
          have hTL : decide (T ≤ r) = true := by simp; omega
          clear HT2
          by_cases hqX : q < X.length
          · obtain ⟨bx, ox, cx, rfl, _, ⟨_, rfl, Ax, nx, ccx, rfl, hnx, hcx, hrx⟩, hcellx⟩ := hxr.elem BytesCell.stable hxa rfl hqX
            have gx : wr.cell? ⟨bx, ox + q, none⟩ = some (.slice Ax nx ccx) := (Same.any (D := Any) hbr).cell trivial (by simpa using hcellx 0 _ rfl)
            have hnx2 : nx = X[q].length := by have := hrx.len; rwa [u8s_length] at this
            have hnx3 : nx ≤ 40 := by rw [hnx2]; exact hX2 _ (List.getElem_mem hqX)
            have hlast : r < T + 2 + nx := by have := hend hqX; omega
            have hne : ((q : Int) == (X.length : Int)) = false := by simp; omega
            clear hnx2 hcellx hxr hyr hxa hya hrx hend HT Hql
            go_wp2
            go_ret
            exact ⟨by simp; omega, hb3'.trans (hbr.mono (by have := hb3'.size; omega))⟩
          · have hne : ((q : Int) == (X.length : Int)) = true := by simp; omega
            clear hxr hyr hxa hya hend HT Hql
            go_wp2
            go_ret
            exact ⟨by simp, hb3'.trans (hbr.mono (by have := hb3'.size; omega))⟩
end Go.Proofs.Ytgcpclbkjplipaa
