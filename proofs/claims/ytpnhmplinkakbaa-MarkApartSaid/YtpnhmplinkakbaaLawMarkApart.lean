/- MarkApart returns true for every input, and leaves its arguments as they were. No condition. -/
import Derived.Test.YtpnhmplinkakbaaRows
import Derived.Test.YtpnhmplinkakbaaLaw
import Derived.Test.YtpnhmplinkakbaaLawNum
import Derived.Test.YtpnhmplinkakbaaSideNew
import Derived.Deep.CutBlock
set_option linter.unusedVariables false
namespace Go.Proofs.Ytpnhmplinkakbaa
open Go.RowKit Go.Mem

def SideB (w0 : World) (S : Nat) (x : Sd) (w : World) : Prop := ∃ own, Side w S own x ∧ (∀ b, own b → w0.heap.size ≤ b) ∧ Below w0.heap.size w0 w
theorem SideB.of_post {w0 w w' : World} {S : Nat} {own own' : Nat → Prop} {x' : Sd} (ho : ∀ b, own b → w0.heap.size ≤ b) (hb : Below w0.heap.size w0 w) (hs : Side w' S own' x') (hg : GrownIn own w w') (hn : ∀ b, own' b → own b ∨ w.heap.size ≤ b) : SideB w0 S x' w' :=
  ⟨own', hs, fun b h => (hn b h).elim (ho b) (fun h => Nat.le_trans hb.size h), Below.of_in hb hg ho hb.size⟩
theorem SideB.below {w0 w w' : World} {S : Nat} {x : Sd} (h : SideB w0 S x w) (hb : Below w.heap.size w w') : SideB w0 S x w' := by
  obtain ⟨own, ⟨P, cp, M, Y, vs, hS, hP, h8, hM, hY, hml, hwl, oS, oM, oY, hW, h200⟩, ho, hbel⟩ := h
  refine ⟨own, ⟨P, cp, M, Y, vs, hS.below hb hS.lt, hP.keep (Same.any hb), h8, hM.below hb hM.lt, hY.below hb hY.lt, hml, hwl, oS, oM, oY, hW.keep fun i v b hv hb' => hb.block b ?_, h200⟩, ho, hbel.trans (hb.mono hbel.size)⟩
  have hi : i < x.ways.length := by rw [← hW.1]; exact (List.getElem?_eq_some_iff.1 hv).1
  exact ((hW.2.1 i v _ hv (List.getElem?_eq_getElem hi)).1.lt b hb').2
theorem SideB.bel {w0 w : World} {S : Nat} {x : Sd} (h : SideB w0 S x w) : Below w0.heap.size w0 w := by
  obtain ⟨own, _, _, hb⟩ := h
  exact hb
theorem below_drewN (w : World) (k : Nat) : Below w.heap.size w (w.drewN k) := ⟨rfl, rfl, rfl, Nat.le_refl _, fun _ _ => rfl⟩
theorem message_b (w0 w : World) (S : Nat) (x x' : Sd) (from_ n : Int) (i : Nat) (h : SideB w0 S x w) (hi : x.peers[i]? = some from_) (hf : ∀ j : Nat, j < i → x.peers[j]? ≠ some from_) (hx : msgF x i n = (x', 0)) :
    Calls Try.prog 11 #[.pointer (some ⟨S, 0, none⟩), .int .i64 from_, .int .i64 n] w fun e w' => e = .returned (.int .i64 0) ∧ SideB w0 S x' w' := by
  obtain ⟨own, hs, ho, hb⟩ := h
  refine (message_any w S own x from_ n i hs hi hf).mono fun e w' ⟨own', he, h1, h2, h3⟩ => ?_
  rw [hx] at he h1
  exact ⟨he, SideB.of_post ho hb h1 h2 h3⟩
theorem marker_b (w0 w : World) (S : Nat) (x x' : Sd) (b : Bool) (from_ st : Int) (i : Nat) (h : SideB w0 S x w) (hi : x.peers[i]? = some from_) (hf : ∀ j : Nat, j < i → x.peers[j]? ≠ some from_) (hx : markF x i st = (x', b, 0)) :
    Calls Try.prog 12 #[.pointer (some ⟨S, 0, none⟩), .int .i64 from_, .int .i64 st] w fun e w' => e = .returned (.tuple #[.bool b, .int .i64 0]) ∧ SideB w0 S x' w' := by
  obtain ⟨own, hs, ho, hb⟩ := h
  refine (marker_any w S own x from_ st i hs hi hf).mono fun e w' ⟨own', he, h1, h2, h3⟩ => ?_
  rw [hx] at he h1
  exact ⟨he, SideB.of_post ho hb h1 h2 h3⟩
/-- the elements at odd places, of the first so many -/
def oddsTo (m : List Int) : Nat → List Int
  | 0 => []
  | k + 1 => oddsTo m k ++ (if k % 2 = 1 then [m.getD k 0] else [])
theorem oddsTo_len (m : List Int) (k : Nat) : (oddsTo m k).length ≤ k := by
  induction k with
  | zero => simp [oddsTo]
  | succ k ih =>
    unfold oddsTo
    split <;> simp <;> omega
def mkX (st : Bool) (state : Int) (b c : Bool) (l : List Int) : Sd := ⟨[1, 2], st, state, [b, c], [[], l]⟩
theorem msg_idle (state : Int) (i : Nat) (n : Int) : msgF (mkX false 0 false false []) i n = (mkX false 0 false false [], 0) := by simp [msgF, mkX]
theorem msg_step (state : Int) (m : List Int) (k : Nat) (hk : k < 30) : msgF (mkX true state true false (oddsTo m k)) (k % 2) (m.getD k 0) = (mkX true state true false (oddsTo m (k + 1)), 0) := by
  have := oddsTo_len m k
  rcases Nat.mod_two_eq_zero_or_one k with h | h
  · rw [h]
    simp [msgF, mkX, oddsTo, h]
  · rw [h]
    simp [msgF, mkX, oddsTo, h]
    omega
theorem msg_over (state : Int) (l : List Int) (n : Int) : msgF (mkX true state true true l) 1 n = (mkX true state true true l, 0) := by simp [msgF, mkX]
theorem first_two (st : Bool) (state : Int) (b c : Bool) (l : List Int) : ∀ j : Nat, j < 1 → (mkX st state b c l).peers[j]? ≠ some 2 := by
  intro j hj
  obtain rfl : j = 0 := by omega
  simp [mkX]
theorem peer_at (k : Nat) (st : Bool) (state : Int) (b c : Bool) (l : List Int) : (mkX st state b c l).peers[k % 2]? = some (1 + (k : Int) % 2) ∧ ∀ j : Nat, j < k % 2 → (mkX st state b c l).peers[j]? ≠ some (1 + (k : Int) % 2) := by
  rcases Nat.mod_two_eq_zero_or_one k with h | h
  · have h' : (k : Int) % 2 = 0 := by omega
    rw [h, h']
    exact ⟨by simp [mkX], fun j hj => by omega⟩
  · have h' : (k : Int) % 2 = 1 := by omega
    rw [h, h']
    refine ⟨by simp [mkX], fun j hj => ?_⟩
    obtain rfl : j = 0 := by omega
    simp [mkX]

set_option maxRecDepth 100000 in
set_option maxHeartbeats 8000000 in
theorem markApart_any (A B : Option Addr) (n c m d : Nat) (l k : List Int) (state : Int) (w : World) (hn : n = l.length) (hnc : n ≤ c) (hcm : c ≤ maxLen) (hr : Reads w Any 1 A n (nums l)) (hm : m = k.length) (hmd : m ≤ d) (hdm : d ≤ maxLen) (hs : Reads w Any 1 B m (nums k)) (hst : -9223372036854775808 ≤ state ∧ state ≤ 9223372036854775807) :
    Calls Try.prog 3 #[.slice A n c, .slice B m d, .int .i64 state] w fun e w' => e = .returned (.bool true) ∧ Below w.heap.size w w' := by
  have Hn := Lib.hid hn
  have Hm := Lib.hid hm
  have Hst := Lib.hid hst
  clear hn hm hst
  go_enter Try.func3, Try.ntmps3
  go_wp2_with (fail)
  have hb0 : Below w.heap.size w (w.alloc (.cells #[.int .i64 1, .int .i64 2] 3)) := (Below.refl _ _).alloc (Nat.le_refl _) _
  refine (new_two _ 1 2 (by omega) w.heap.size 0 2 (by omega) (by exact Reads.new (D := Any) w [.int .i64 1, .int .i64 2] 1 2 3 trivial rfl)).mono ?_
  rintro e1 w1 ⟨S, rfl, hs1, hb1⟩
  have hsb1 : SideB w S (mkX false 0 false false []) w1 := ⟨_, hs1, fun b hb => by simp at hb; omega, hb0.trans (hb1.mono hb0.size)⟩
  clear hs1 hb1 hb0
  have Hsb := Lib.hid hsb1
  clear hsb1
  obtain ⟨a, ha⟩ : ∃ a, a = min n 30 := ⟨_, rfl⟩
  obtain ⟨z, hz⟩ : ∃ z, z = min m 30 := ⟨_, rfl⟩
  have ha2 : a ≤ n ∧ a ≤ 30 := by omega
  have hz2 : z ≤ m ∧ z ≤ 30 := by omega
  obtain ⟨hsa, hra⟩ := slice_h 22 3 Try.underlying22 size_int hr hnc a ha2.1 (a : Int) rfl
  obtain ⟨hsz, hrz⟩ := slice_h 22 3 Try.underlying22 size_int hs hmd z hz2.1 (z : Int) rfl
  rw [Nat.mul_one, nums_take] at hra hrz
  have Ha := Lib.hid ha
  have Hz := Lib.hid hz
  have Hra := Lib.hid hra
  have Hrz := Lib.hid hrz
  obtain ⟨ha2, ha3⟩ := ha2
  obtain ⟨hz2, hz3⟩ := hz2
  clear ha hz hra hrz hr hs
  go_upto_region 4 with (fail)
  go_cut [0, 1] (fun s0 s1 wc => s0 = .slice A a c ∧ s1 = .slice B z d ∧ SideB w S (mkX false 0 false false []) wc)
  case first =>
    by_cases h1 : n ≤ 30
    · obtain rfl : a = n := by have := Ha.out; omega
      by_cases h2 : m ≤ 30
      · obtain rfl : z = m := by have := Hz.out; omega
        go_quiet (fail)
        go_wp2_with (fail)
        go_meet
        exact ⟨rfl, rfl, Hsb.out.below (below_drewN _ _)⟩
      · obtain rfl : z = 30 := by have := Hz.out; omega
        go_quiet (fail)
        go_wp2_with (fail)
        go_meet
        exact ⟨rfl, rfl, Hsb.out.below (below_drewN _ _)⟩
    · obtain rfl : a = 30 := by have := Ha.out; omega
      by_cases h2 : m ≤ 30
      · obtain rfl : z = m := by have := Hz.out; omega
        go_quiet (fail)
        go_wp2_with (fail)
        go_meet
        exact ⟨rfl, rfl, Hsb.out.below (below_drewN _ _)⟩
      · obtain rfl : z = 30 := by have := Hz.out; omega
        go_quiet (fail)
        go_wp2_with (fail)
        go_meet
        exact ⟨rfl, rfl, Hsb.out.below (below_drewN _ _)⟩
  case rest =>
    obtain ⟨rfl, rfl, hsb2⟩ := hcut
    have Hla := Lib.hid (show a = (l.take a).length by rw [List.length_take]; have := Hn.out; omega)
    have Hlz := Lib.hid (show z = (k.take z).length by rw [List.length_take]; have := Hm.out; omega)
    generalize l.take a = la at Hra Hla
    generalize k.take z = lz at Hrz Hlz
    have hca : ∀ (j : Nat), j < a → ∀ (wr : World), Below w.heap.size w wr → ∃ b o x, A = some ⟨b, o, none⟩ ∧ wr.cell? ⟨b, o + j, none⟩ = some (.int .i64 x) := by
      intro j hj wr hb
      obtain ⟨b, o, u, e, _, hu, hc⟩ := Hra.out.at_ hj
      rw [nums_at la j (by rw [← Hla.out]; exact hj)] at hu
      injection hu with hu
      exact ⟨b, o, la[j]'(by rw [← Hla.out]; exact hj), e, by rw [hu]; exact (Same.any (D := Any) hb).cell trivial hc⟩
    have Hca := Lib.hid hca
    have hcz : ∀ (j : Nat), j < z → ∀ (wr : World), Below w.heap.size w wr → ∃ b o, B = some ⟨b, o, none⟩ ∧ wr.cell? ⟨b, o + j, none⟩ = some (.int .i64 (lz.getD j 0)) := by
      intro j hj wr hb
      obtain ⟨b, o, u, e, _, hu, hc⟩ := Hrz.out.at_ hj
      have hjl : j < lz.length := by rw [← Hlz.out]; exact hj
      rw [nums_at lz j hjl] at hu
      injection hu with hu
      have hg : lz.getD j 0 = lz[j] := by simp [List.getD, hjl]
      exact ⟨b, o, e, by rw [hg, hu]; exact (Same.any (D := Any) hb).cell trivial hc⟩
    have Hcz := Lib.hid hcz
    clear hca hcz
    clear Hsb hsa hsz
    go_wp2_with (fail)
    go_loopw [47] (fun v wr => ∃ j : Nat, j ≤ a ∧ v = .int .i64 j ∧ Hid (SideB w S (mkX false 0 false false []) wr)) (fun v _ => a - (intOf v).toNat)
    case atStart => exact ⟨0, Nat.zero_le _, rfl, hsb2⟩
    case round =>
      obtain ⟨j, hj, rfl, hsbr⟩ := hrel
      by_cases hlt : j < a
      · obtain ⟨bb, oo, x, rfl, hcx⟩ := Hca.out j hlt wr hsbr.out.bel
        have MS := Lib.hid (message_b w wr S _ _ 1 x 0 hsbr.out rfl (fun j hj => by omega) (msg_idle 0 0 x))
        go_wp2_with (fail)
        refine MS.out.mono ?_
        rintro e w2 ⟨rfl, hs2⟩
        have Hs2 := Lib.hid hs2
        clear hs2
        go_wp2_with (fail)
        exact ⟨⟨j + 1, by omega, by go_num, Hs2⟩, by simp [intOf]; omega⟩
      · have MK := Lib.hid (marker_b w wr S _ (mkX true state true false []) true 1 state 0 hsbr.out rfl (fun j hj => by omega) (by simp [markF, mkX, beginF]))
        clear hsbr
        go_wp2_with (fail)
        refine MK.out.mono ?_
        rintro e w3 ⟨rfl, hs3⟩
        have Hs3 := Lib.hid hs3
        clear hs3
        go_wp2_with (fail)
        go_loopw [64] (fun v wr => ∃ j : Nat, j ≤ z ∧ v = .int .i64 j ∧ Hid (SideB w S (mkX true state true false (oddsTo lz j)) wr)) (fun v _ => z - (intOf v).toNat)
        case atStart => exact ⟨0, Nat.zero_le _, rfl, Hs3.out⟩
        case round =>
          obtain ⟨i, hi, rfl, hsbr⟩ := hrel
          by_cases hlt2 : i < z
          · obtain ⟨bb, oo, rfl, hcx⟩ := Hcz.out i hlt2 wr hsbr.out.bel
            have hp := peer_at i true state true false (oddsTo lz i)
            have MS := Lib.hid (message_b w wr S _ _ (1 + (i : Int) % 2) (lz.getD i 0) (i % 2) hsbr.out hp.1 hp.2 (msg_step state lz i (by omega)))
            generalize lz.getD i 0 = x at hcx MS
            clear hp
            go_wp2_with (fail)
            refine MS.out.mono ?_
            rintro e w2 ⟨rfl, hs2⟩
            have Hs2 := Lib.hid hs2
            clear hs2
            go_wp2_with (fail)
            exact ⟨⟨i + 1, by omega, by go_num, Hs2⟩, by simp [intOf]; omega⟩
          · obtain rfl : i = z := by omega
            have MK2 := Lib.hid (marker_b w wr S _ (mkX true state true true (oddsTo lz i)) false 2 (wrap64 (state + 1)) 1 hsbr.out rfl (first_two _ _ _ _ _) (by simp [markF, mkX, beginF]))
            clear hsbr Hs3 MK
            go_wp2_with (fail)
            refine MK2.out.mono ?_
            rintro e w4 ⟨rfl, hs4⟩
            have Hs4 := Lib.hid hs4
            clear hs4 MK2
            go_wp2_with (fail)
            go_loopw [86] (fun v wr => ∃ j : Nat, j ≤ a ∧ v = .int .i64 j ∧ Hid (SideB w S (mkX true state true true (oddsTo lz i)) wr)) (fun v _ => a - (intOf v).toNat)
            case atStart => exact ⟨0, Nat.zero_le _, rfl, Hs4.out⟩
            case round =>
              obtain ⟨j3, hj3, rfl, hsb3⟩ := hrel
              by_cases hlt3 : j3 < a
              · obtain ⟨bb, oo, x, rfl, hcx⟩ := Hca.out j3 hlt3 wr hsb3.out.bel
                have MS := Lib.hid (message_b w wr S _ _ 2 x 1 hsb3.out rfl (first_two _ _ _ _ _) (msg_over state (oddsTo lz i) x))
                go_wp2_with (fail)
                refine MS.out.mono ?_
                rintro e w2 ⟨rfl, hs2⟩
                have Hs2 := Lib.hid hs2
                clear hs2
                go_wp2_with (fail)
                exact ⟨⟨j3 + 1, by omega, by go_num, Hs2⟩, by simp [intOf]; omega⟩
              · obtain ⟨own, hsd, _, hbw⟩ := hsb3.out
                have TL := Lib.hid (tell_any wr S own _ hsd)
                clear hsb3 Hs4 hsd
                go_wp2_with (fail)
                refine TL.out.mono ?_
                rintro e w5 ⟨t1, t2, t3⟩
                obtain ⟨A5, c5, rfl, ho5⟩ := t1 (by simp [mkX])
                clear t1 t2 TL
                have hw5 : Below w.heap.size w w5 := hbw.trans (t3.mono hbw.size)
                have hlen2 : (mkX true state true true (oddsTo lz i)).ways.length = 2 := rfl
                have hst5 : (mkX true state true true (oddsTo lz i)).state = state := rfl
                rw [hlen2, hst5]
                rw [hlen2] at ho5
                have Ho5 := Lib.hid ho5
                clear ho5 hlen2 hst5 t3 hbw
                go_wp2_with (fail)
                go_loopw [21, 102] (fun v21 v wr => ∃ j : Nat, j ≤ i ∧ v = .int .i64 j ∧ wr.ownsRow w5.heap.size 3 1 v21 (oddsTo lz j).length (nums (oddsTo lz j)) ∧ Below w5.heap.size w5 wr) (fun _ v _ => i - (intOf v).toNat)
                case atStart => exact ⟨0, Nat.zero_le _, rfl, World.ownsRow_nil _ _ _ _, Below.refl _ _⟩
                case round =>
                  obtain ⟨j4, hj4, rfl, hown, hbr⟩ := hrel
                  have hol := oddsTo_len lz j4
                  by_cases hlt4 : j4 < i
                  · obtain ⟨bb, oo, rfl, hcx⟩ := Hcz.out j4 hlt4 wr (hw5.trans (hbr.mono hw5.size))
                    have Hod := Lib.hid (show oddsTo lz (j4 + 1) = oddsTo lz j4 ++ (if j4 % 2 = 1 then [lz.getD j4 0] else []) from rfl)
                    generalize lz.getD j4 0 = x at hcx Hod
                    by_cases hpar : j4 % 2 = 1
                    · have hq : (((j4 : Int) % 2) == 1) = true := by simp; omega
                      go_wp2_with (at_builtin; refine app_int _ rfl (.tmp 110) (.tmp 112) rfl (hown.alloc _) rfl (Reads.new (D := Any) _ [.int .i64 x] 1 1 _ trivial rfl) rfl (by simp [Value.oneCell']) (by omega) (by have := hbr.size; simp; omega) ?_; intro v2 w2 hown2 hg2 hat2)
                      refine ⟨⟨j4 + 1, by omega, by go_num, ?_, (hbr.alloc hbr.size _).grown hg2 (by have := hbr.size; simp; omega) (fun k hk => (hown.lt k hk).1)⟩, by simp [intOf]; omega⟩
                      rw [Hod.out, if_pos hpar, nums_append, List.length_append]
                      exact hown2
                    · have hq : (((j4 : Int) % 2) == 1) = false := by simp; omega
                      go_wp2_with (fail)
                      refine ⟨⟨j4 + 1, by omega, by go_num, ?_, hbr⟩, by simp [intOf]; omega⟩
                      rw [Hod.out, if_neg hpar, List.append_nil]
                      exact hown
                  · obtain rfl : j4 = i := by omega
                    obtain ⟨A6, c6, rfl, hc6, hm6⟩ := own_form hown
                    obtain ⟨_, _, hr6⟩ := own_reads (by omega) hown
                    obtain ⟨vss, hq0, _, _, hvr, hva⟩ := (Ho5.out).reads NumsCell.stable (by omega)
                    clear hq0
                    obtain ⟨b7, o7, cs7, rfl, _, ⟨_, rfl, A7, n7, c7, rfl, _, _, hr7⟩, hc7⟩ := hvr.elem NumsCell.stable hva rfl (k := 0) (by simp [mkX])
                    obtain ⟨b8, o8, cs8, e8, _, ⟨_, rfl, A8, n8, c8, rfl, _, _, hr8⟩, hc8⟩ := hvr.elem NumsCell.stable hva rfl (k := 1) (by simp [mkX])
                    injection e8 with e8
                    injection e8 with e81 e82
                    subst e81 e82
                    have g7 : wr.cell? ⟨b7, o7, none⟩ = some (.slice A7 n7 c7) := (Same.any (D := Any) hbr).cell trivial (by simpa using hc7 0 _ rfl)
                    have g8 : wr.cell? ⟨b7, o7 + 1, none⟩ = some (.slice A8 n8 c8) := (Same.any (D := Any) hbr).cell trivial (by simpa using hc8 0 _ rfl)
                    have hn7 : n7 = 0 := by have := hr7.len; rw [nums_length] at this; simpa [mkX] using this
                    subst hn7
                    have hr8' : Reads wr _ 1 A8 n8 (nums (oddsTo lz j4)) := (hr8.keep (Same.any hbr))
                    have hn8 : n8 = (oddsTo lz j4).length := by have := hr8'.len; rwa [nums_length] at this
                    have EQ := Lib.hid (equal_ints A8 A6 n8 c8 _ c6 (oddsTo lz j4) (oddsTo lz j4) _ _ wr hr8' hr6 (by omega) (by omega))
                    have hbfin := hw5.trans (hbr.mono hw5.size)
                    generalize hOL : (oddsTo lz j4).length = OL at hn8 EQ hol ⊢
                    have hss : (state == state) = true := by simp
                    clear hvr hva hr7 hr8 hr8' hr6 hown hc7 hc8 hOL Ho5 hn8
                    go_wp2_with (fail)
                    refine EQ.out.mono ?_
                    rintro e w9 ⟨rfl, hb9⟩
                    go_wp2_with (fail)
                    go_ret
                    exact ⟨by simp, hbfin.trans (hb9.mono hbfin.size)⟩
end Go.Proofs.Ytpnhmplinkakbaa
namespace Go.Proofs.Ytpnhmplinkakbaa.markApart
open Go.ChangeShapes Go.WideShapes Go.ChangeAt Go.RowKit Go.Mem Go.Law

theorem own : ownKnob Try.prog.godebug = none := by kernel_rfl
theorem laidOut : laidOutB Try.prog = true := by kernel_rfl

set_option maxRecDepth 100000 in
theorem lifted (os : Os) (started : os.Started) (H : Type) (enc : TypeId × Value → H) :
    ReturnsInHanded {} Try.checked os 3 .any (Rows.markApartSpec.pre6 enc Try.prog Try.f3 Rows.markApartRow.domain false) (Rows.markApartSpec.post enc Try.prog Try.f3 false true false false) := by
  refine returnsInHanded_of_change (C := Try.checked) own started (by kernel_rfl) Try.func3
    (ChangeSpec.witness6 (enc := enc) (C := Try.checked) false ⟨#[], #[.slice none 0 0, .slice none 0 0, .int .i64 0], []⟩ 8 (by kernel_rfl) (by kernel_rfl) (by kernel_rfl) (by kernel_rfl)) ?_
  intro W base args ds gs before hval0 hW hcnd _
  have hval : ∀ (j : Nat) t v, Try.f3.params[j]? = some t → args[j]? = some v → Value.okWide Try.prog W .any base t v := hval0
  have hW' : DataW.Whole enc Try.prog Try.f3.params.toList Rows.markApartSpec.vars false W args.toList ds gs before := hW
  obtain ⟨p, q, hA0, hV, rfl, hfz, hnd⟩ := hW
  have hA : DataW.TrodAll enc Try.prog W 0 (fun _ => true) true Try.f3.params.toList args.toList ds p := hA0
  rw [Try.params3] at hA hval
  obtain ⟨v0, vs0, d0, ds0, p0, q0, hargs, rfl, rfl, h0, r0⟩ := trodAll_cons hA
  obtain ⟨v1, vs1, d1, ds1, p1, q1, rfl, rfl, rfl, h1, r1⟩ := trodAll_cons r0
  obtain ⟨v2, vs2, d2, ds2, p2, q2, rfl, rfl, rfl, h2, r2⟩ := trodAll_cons r1
  obtain ⟨rfl, rfl, rfl⟩ := trodAll_nil r2
  obtain rfl : args = #[v0, v1, v2] := by cases args; simp_all
  obtain ⟨rfl, rfl⟩ := trodVars_none hV
  obtain ⟨A0, n0, c0, s0, rfl, hn0, hc0, hd0, hr0, hl0⟩ := open_nums Try.underlying22 Try.underlying3 (by kernel_rfl) (hval 0 _ v0 rfl rfl) h0
  obtain ⟨A1, n1, c1, s1, rfl, hn1, hc1, hd1, hr1, hl1⟩ := open_nums Try.underlying22 Try.underlying3 (by kernel_rfl) (hval 1 _ v1 rfl rfl) h1
  obtain ⟨a2, rfl, rfl, rfl, x2⟩ := open_int Try.underlying3 (hval 2 _ v2 rfl rfl) h2
  have w2 := i64_of_wf x2
  clear hA0 hval0
  refine (markApart_any A0 A1 n0 c0 n1 c1 s0 s1 a2 W hn0 hc0 hd0 hr0 hn1 hc1 hd1 hr1 w2).mono fun e W' ⟨he, bel⟩ => ?_
  subst he
  exact ⟨_, rfl, law_post (tb := 4) laidOut Try.underlying4 (by kernel_rfl) (by kernel_rfl) rfl rfl hW' bel⟩

/-- ████ THE STATEMENT ████ -/
theorem proved : Rows.MarkApartSaid :=
  OpenClaim.holds_of_wide 3 Try.f3 rfl rfl rfl rfl rfl rfl rfl ⟨rfl, rfl, rfl, rfl, rfl⟩ rfl rfl rfl rfl rfl (by kernel_rfl) Try.func3 (by kernel_rfl)
    (of_decide_eq_true (by kernel_rfl)) (by unfold Func.isWrapper; first | (rw [if_pos (by decide +kernel)]; kernel_rfl) | (rw [if_neg (by decide +kernel)]; exact ⟨rfl, rfl⟩))
    (fun os started H enc _ => lifted os started H enc)
#print axioms proved
end Go.Proofs.Ytpnhmplinkakbaa.markApart
