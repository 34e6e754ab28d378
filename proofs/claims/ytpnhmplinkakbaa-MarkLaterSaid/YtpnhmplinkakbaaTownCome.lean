/- Contract of package mark's come. -/
import Derived.Test.YtpnhmplinkakbaaTownOps
set_option linter.unusedVariables false
namespace Go.Mem
theorem GrownIn.wide {own own' : Nat → Prop} {w w' : World} (h : GrownIn own w w') (k : ∀ b, own b → own' b) : GrownIn own' w w' := ⟨h.os, h.tape, h.output, h.size, fun i hi hn => h.block i hi fun e => hn (k i e)⟩
end Go.Mem
namespace Go.Proofs.Ytpnhmplinkakbaa
open Go.RowKit Go.Mem Go.Maps

theorem filter_ne (b : Nat) : ∀ n, b < n → (List.range n).filter (fun k => !decide (k = b)) = List.range b ++ List.range' (b + 1) (n - b - 1)
  | 0, h => by omega
  | n + 1, h => by
    rw [List.range_succ, List.filter_append]
    by_cases e : b = n
    · subst e
      have h1 : (List.range b).filter (fun k => !decide (k = b)) = List.range b := by
        rw [List.filter_eq_self]
        intro x hx
        have := List.mem_range.1 hx
        simp
        omega
      rw [h1]
      simp
    · rw [filter_ne b n (by omega)]
      have h2 : [n].filter (fun k => !decide (k = b)) = [n] := by simp; omega
      rw [h2, List.append_assoc]
      congr 1
      have h3 : n + 1 - b - 1 = (n - b - 1) + 1 := by omega
      rw [h3, List.range'_concat]
      congr 2
      omega
theorem peersOf_at (n b j : Nat) (hb : b < n) : (peersOf n b)[j]? = if j < n - 1 then some (if j < b then (j : Int) else (j : Int) + 1) else none := by
  unfold peersOf
  rw [List.getElem?_map, filter_ne b n hb]
  by_cases h1 : j < b
  · rw [List.getElem?_append_left (by simpa using h1), List.getElem?_range h1, if_pos (by omega), if_pos h1]
    rfl
  · rw [List.getElem?_append_right (by simp; omega), List.length_range]
    by_cases h2 : j < n - 1
    · rw [List.getElem?_range' (by omega), if_pos h2, if_neg h1]
      simp
      omega
    · rw [List.getElem?_eq_none (by simp; omega), if_neg h2]
      rfl
theorem peersOf_pos {n a b : Nat} (ha : a < n) (hb : b < n) (hab : a ≠ b) : (peersOf n b)[pos b a]? = some (a : Int) ∧ ∀ j : Nat, j < pos b a → (peersOf n b)[j]? ≠ some (a : Int) := by
  have hp := pos_lt ha hb hab
  refine ⟨?_, fun j hj => ?_⟩
  · rw [peersOf_at n b _ hb, if_pos hp]
    unfold pos
    by_cases h : a < b
    · rw [if_pos h, if_pos h]
    · rw [if_neg h, if_neg (by omega)]
      congr 1
      omega
  · rw [peersOf_at n b _ hb, if_pos (by omega)]
    unfold pos at hj
    intro e
    injection e with e
    split at hj <;> split at e <;> omega

theorem coin_cell {w : World} {B T : Nat} {col : Nat → Col} {s : Tn} {C cC : Nat} {curC : List Value} {S cS : Nat} {curS : List Value} {m : Nat} {l : List ((Nat × Nat) × Value)} (h : TownW w B T col s C cC curC S cS curS m l) {i : Nat} (hi : i < s.coins.length) :
    w.cell? ⟨C, i, none⟩ = some (.int .i64 (co s i)) := by
  rw [h.hC.cell]
  have e : (curC.take s.coins.length)[i]? = curC[i]? := by rw [List.getElem?_take, if_pos hi]
  rw [← e, h.hc, nums_at _ _ hi]
  simp [co, List.getD_eq_getElem?_getD, hi]
theorem side_cell {w : World} {B T : Nat} {col : Nat → Col} {s : Tn} {C cC : Nat} {curC : List Value} {S cS : Nat} {curS : List Value} {m : Nat} {l : List ((Nat × Nat) × Value)} (h : TownW w B T col s C cC curC S cS curS m l) {i : Nat} (hi : i < s.sides.length) :
    ∃ S0 : Nat, curS[i]? = some (.pointer (some ⟨S0, 0, none⟩)) ∧ w.cell? ⟨S, i, none⟩ = some (.pointer (some ⟨S0, 0, none⟩)) ∧ Side w S0 (fun b => col b = .rows i) (sd s i) := by
  have e : s.sides[i]? = some (sd s i) := by simp [sd, List.getD_eq_getElem?_getD, hi]
  obtain ⟨S0, h1, h2⟩ := h.sd i _ e
  exact ⟨S0, h1, by rw [h.hS.cell]; exact h1, h2⟩

/-- what come does, the element being taken from its channel already -/
def come1 (s : Tn) (a b : Nat) (m : Int) : Tn :=
  if m = -1 then ⟨s.coins, s.sides.set b (markF (sd s b) (pos b a) (co s b)).1, if (markF (sd s b) (pos b a) (co s b)).2.1 then spreadK b s.coins.length s.ways else s.ways⟩
  else ⟨s.coins.set b (co s b + m), s.sides.set b (msgF (sd s b) (pos b a) m).1, s.ways⟩
structure Fine (n : Nat) (s : Tn) : Prop where
  lc : s.coins.length = n
  ls : s.sides.length = n
  n8 : n ≤ 8
  pe : ∀ i, i < n → (sd s i).peers = peersOf n i
  c0 : ∀ i, 0 ≤ co s i ∧ co s i ≤ 1000000000000
  ll : ∀ a b, (chan s.ways a b).length ≤ 1000
  el : ∀ a b, ∀ x ∈ chan s.ways a b, x = -1 ∨ (1 ≤ x ∧ x ≤ 1000000000000)

set_option maxRecDepth 100000 in
set_option maxHeartbeats 1000000 in
theorem come_coin (w : World) (B T : Nat) (col : Nat → Col) (s : Tn) (n a b : Nat) (m : Int) (h : TownAt w B T col s) (hB : B ≤ w.heap.size) (hf : Fine n s) (ha : a < n) (hb : b < n) (hab : a ≠ b) (hm : m ≠ -1) (hm1 : 0 ≤ m) (hm2 : m ≤ 1000000000000) :
    Calls Try.prog 50 #[.pointer (some ⟨T, 0, none⟩), .int .i64 a, .int .i64 b, .int .i64 m] w (DoPost w B T (come1 s a b m)) := by
  have e1 : come1 s a b m = ⟨s.coins.set b (co s b + m), s.sides.set b (msgF (sd s b) (pos b a) m).1, s.ways⟩ := if_neg hm
  rw [e1]
  clear e1
  obtain ⟨C, cC, curC, S, cS, curS, mm, l, h⟩ := h
  have hbl : b < s.sides.length := by rw [hf.ls]; exact hb
  have hbc : b < s.coins.length := by rw [hf.lc]; exact hb
  obtain ⟨S0, q1, q2, q3⟩ := side_cell h hbl
  obtain ⟨p1, p2⟩ := peersOf_pos ha hb hab
  rw [← hf.pe b hb] at p1 p2
  have MS := Lib.hid (message_any w S0 _ (sd s b) (a : Int) m (pos b a) q3 p1 p2)
  obtain ⟨v0, v1⟩ := hf.c0 b
  have c1 := h.blk.cell 1
  simp only [List.getElem?_cons_succ, List.getElem?_cons_zero] at c1
  have lT := h.blk.lt
  have lS := h.hS.lt
  have hls := hf.ls
  have hlc := hf.lc
  rw [hls] at c1
  have hd : (m != -1) = true := by simpa using hm
  have H := Lib.hid h
  have Hq := Lib.hid q1
  have Hbl := Lib.hid hbl
  have Hbc := Lib.hid hbc
  have Hlc := Lib.hid hlc
  clear q1 q3 p1 p2 h hf hls hbl hbc hlc hm
  go_enter Try.func50, Try.ntmps50
  go_wp2_with (fail)
  refine MS.out.mono ?_
  rintro e w2 ⟨own', rfl, hs2, hg2, ho2⟩
  have h2 := H.out.side hB Hq.out Hbl.out hg2 hs2 ho2
  have hg2' : GrownIn (fun b => B ≤ b) w w2 := hg2.wide fun b' e => H.out.own (by simp) b' e
  have d0 := h2.blk.cell 0
  simp only [List.getElem?_cons_zero] at d0
  rw [Hlc.out] at d0
  have d1 := coin_cell h2 (i := b) Hbc.out
  have d2 := h2.hC.frozen b
  have lT2 := h2.blk.lt
  have lC2 := h2.hC.lt
  have e2 : co (⟨s.coins, s.sides.set b (msgF (sd s b) (pos b a) m).1, s.ways⟩ : Tn) b = co s b := rfl
  rw [e2] at d1
  have H2 := Lib.hid h2
  clear h2 e2 MS c1 q2 hs2
  go_wp2_with (fail)
  go_end0
  exact ⟨_, rfl, ⟨_, _, _, _, _, _, _, _, H2.out.coin Hbc.out _⟩, hg2'.set (p := ⟨C, b, none⟩) (H.out.own (c := .coins) (by simp) C H.out.cC) _⟩
/-- cells of the parts that stay -/
theorem town_keep {w w' : World} {B T : Nat} {col : Nat → Col} {s : Tn} {C cC : Nat} {curC : List Value} {S cS : Nat} {curS : List Value} {m : Nat} {l : List ((Nat × Nat) × Value)} {v0 v1 v2 v3 : Value} {i j : Nat} (h : TownW w B T col s C cC curC S cS curS m l) {i0 : Nat} (hg : GrownIn (fun b => col b = .rows i0) w w')
    (e0 : w.cell? ⟨T, 0, none⟩ = some v0) (e1 : w.cell? ⟨T, 1, none⟩ = some v1) (e2 : w.cell? ⟨S, i, none⟩ = some v2) (e3 : w.cell? ⟨C, j, none⟩ = some v3) :
    w'.cell? ⟨T, 0, none⟩ = some v0 ∧ w'.cell? ⟨T, 1, none⟩ = some v1 ∧ w'.cell? ⟨S, i, none⟩ = some v2 ∧ w'.cell? ⟨C, j, none⟩ = some v3 := by
  have kT := hg.block T h.blk.lt (by rw [h.cT]; simp)
  have kS := hg.block S h.hS.lt (by rw [h.cS]; simp)
  have kC := hg.block C h.hC.lt (by rw [h.cC]; simp)
  exact ⟨(World.cell?_of_block (w := w) kT).trans e0, (World.cell?_of_block (w := w) kT).trans e1, (World.cell?_of_block (w := w) kS).trans e2, (World.cell?_of_block (w := w) kC).trans e3⟩
set_option maxRecDepth 100000 in
set_option maxHeartbeats 1000000 in
theorem come_mark (w : World) (B T : Nat) (col : Nat → Col) (s : Tn) (n a b : Nat) (h : TownAt w B T col s) (hB : B ≤ w.heap.size) (hf : Fine n s) (ha : a < n) (hb : b < n) (hab : a ≠ b) :
    Calls Try.prog 50 #[.pointer (some ⟨T, 0, none⟩), .int .i64 a, .int .i64 b, .int .i64 (-1)] w (DoPost w B T (come1 s a b (-1))) := by
  have e1 : come1 s a b (-1) = ⟨s.coins, s.sides.set b (markF (sd s b) (pos b a) (co s b)).1, if (markF (sd s b) (pos b a) (co s b)).2.1 then spreadK b s.coins.length s.ways else s.ways⟩ := if_pos rfl
  rw [e1]
  clear e1
  obtain ⟨C, cC, curC, S, cS, curS, mm, l, h⟩ := h
  have hbl : b < s.sides.length := by rw [hf.ls]; exact hb
  have hbc : b < s.coins.length := by rw [hf.lc]; exact hb
  obtain ⟨S0, q1, q2, q3⟩ := side_cell h hbl
  obtain ⟨p1, p2⟩ := peersOf_pos ha hb hab
  rw [← hf.pe b hb] at p1 p2
  have d1 := coin_cell h hbc
  generalize hX : markF (sd s b) (pos b a) (co s b) = X
  have MK := Lib.hid (fun W (hW : W.heap = w.heap) => marker_any W S0 _ (sd s b) (a : Int) (co s b) (pos b a) (q3.keep (Same.of_heap hW)) p1 p2)
  rw [hX] at MK
  have c0 := h.blk.cell 0
  have c1 := h.blk.cell 1
  simp only [List.getElem?_cons_succ, List.getElem?_cons_zero] at c0 c1
  have lT := h.blk.lt
  have lS := h.hS.lt
  have lC := h.hC.lt
  have hls := hf.ls
  have hlc := hf.lc
  rw [hls] at c1
  rw [hlc] at c0
  have SP := Lib.hid (fun W (col' : Nat → Col) (hW : TownAt W B T col' ⟨s.coins, s.sides.set b X.1, s.ways⟩) (hBW : B ≤ W.heap.size) => spread_any W B T col' ⟨s.coins, s.sides.set b X.1, s.ways⟩ b hW hBW hbc (by show s.coins.length ≤ 8; rw [hlc]; exact hf.n8) (hf.ll b))
  have H := Lib.hid h
  have Hq := Lib.hid q1
  have Hbl := Lib.hid hbl
  have Hlc := Lib.hid hlc
  generalize co s b = v at d1 MK
  obtain ⟨x', st, r⟩ := X
  simp only at MK SP ⊢
  clear q1 q3 p1 p2 h hf hls hbl hbc hlc hX hab
  have b0 : (0 : Int) ≤ (b : Int) := by omega
  have b1 : (b : Int) < (n : Int) := by omega
  cases st
  case' true => simp only [if_true]
  case' false => simp only [Bool.false_eq_true, if_false]
  all_goals
    go_enter Try.func50, Try.ntmps50
    go_wp2_with (fail)
    go_region_held3 (fun w' => w'.cell? ⟨T, 0, none⟩ = some (.slice (some ⟨C, 0, none⟩) n cC) ∧ w'.cell? ⟨T, 1, none⟩ = some (.slice (some ⟨S, 0, none⟩) n cS) ∧ w'.cell? ⟨S, b, none⟩ = some (.pointer (some ⟨S0, 0, none⟩)) ∧ w'.cell? ⟨C, b, none⟩ = some (.int .i64 v))
      (first | go_keep | exact hkeep.out)
      ((go_at_call 12; refine (MK.out w.drew rfl).mono ?_; rintro e w2 ⟨own', rfl, hs2, hg2, ho2⟩; have hgw : GrownIn (fun b_1 => col b_1 = .rows b) w w2 := ⟨hg2.os, hg2.tape, hg2.output, hg2.size, hg2.block⟩; have h2 := H.out.side hB Hq.out Hbl.out hgw hs2 ho2; have H2 := Lib.hid h2; have hkeep := Lib.hid (town_keep H.out hgw c0 c1 q2 d1); clear h2 hs2 hg2))
  · go_wp2_with (fail)
    go_end0
    exact ⟨_, rfl, ⟨_, _, _, _, _, _, _, _, H2.out⟩, hgw.wide fun b' e => H.out.own (by simp) b' e⟩
  · have hgw' : GrownIn (fun b => B ≤ b) w w2 := hgw.wide fun b' e => H.out.own (by simp) b' e
    go_wp2_with (fail)
    refine (SP.out w2 _ ⟨_, _, _, _, _, _, _, _, H2.out⟩ (Nat.le_trans hB hgw.size)).mono ?_
    rintro e w3 ⟨col3, rfl, h3, hg3⟩
    go_wp2_with (fail)
    go_end0
    exact ⟨col3, rfl, h3, hgw'.trans hg3 fun b' e => .inl e⟩
theorem come_any (w : World) (B T : Nat) (col : Nat → Col) (s : Tn) (n a b : Nat) (m : Int) (h : TownAt w B T col s) (hB : B ≤ w.heap.size) (hf : Fine n s) (ha : a < n) (hb : b < n) (hab : a ≠ b) (hm : m = -1 ∨ (1 ≤ m ∧ m ≤ 1000000000000)) :
    Calls Try.prog 50 #[.pointer (some ⟨T, 0, none⟩), .int .i64 a, .int .i64 b, .int .i64 m] w (DoPost w B T (come1 s a b m)) := by
  rcases hm with rfl | ⟨h1, h2⟩
  · exact come_mark w B T col s n a b h hB hf ha hb hab
  · exact come_coin w B T col s n a b m h hB hf ha hb hab (by omega) (by omega) h2
end Go.Proofs.Ytpnhmplinkakbaa
