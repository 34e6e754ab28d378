/- Contracts of query.Uses and query.Dead at the laws' module. -/
import Derived.Test.YtaealapgebbnlaaGreatDoorQrQuery
import Derived.Deep.LoopGhost
set_option linter.unusedVariables false
namespace Go.Proofs.YtaealapgebbnlaaGreatDoor
open Go.RowKit Go.Mem Go.Md Go.Maps
set_option maxRecDepth 100000 in
set_option maxHeartbeats 4000000 in
theorem quses_any (cs : List Value) (fs : List Md.Fn) (z : Bd) (w : World) (hm : ModAt w Any cs fs z) (hbd : ∀ f ∈ fs, BdOk f.2) (hz : BdOk z) (a : Bs) (ha : a ∈ nmA) :
    Calls Tryz.prog 6 #[.agg cs.toArray, bst a] w fun e w' => ∃ A c n, e = .returned (.tuple #[.slice A n c, .int .i64 0]) ∧ n = (useOf nmA (usesA fs z) a).length ∧ n ≤ 10 ∧ Reads w' Any 1 A n ((srt (useOf nmA (usesA fs z) a)).map bst) ∧ Below w.heap.size w w' := by
  have NG := Lib.hid (fun (V : World) (hV : Below w.heap.size w V) => newGraph_any cs fs z V (hm.keep (Same.any hV)) hbd hz)
  have hui := Lib.hid (usesA_in hm.ei.1 hbd hz)
  obtain ⟨⟨AD, cD, AM, cM, AF, cF, AZ, cZ, vss, vs, rfl, _⟩, _⟩ := hm
  obtain ⟨S, hS⟩ : ∃ S : ByteArray, S = ⟨a.toArray⟩ := ⟨_, rfl⟩
  rw [show bst a = .string S from by rw [hS]]
  have HS := Lib.hid hS
  have HA := Lib.hid ha
  clear hbd hz hS ha
  go_enter Tryz.func6, Tryz.ntmps6
  go_wp2_with (fail)
  have b1 : Below w.heap.size w (w.alloc (.cells #[bst [109], .int .i64 1, .slice none 0 0, .slice AD 1 cD, .slice none 0 0, .slice none 0 0, .slice AF 8 cF, .slice AZ 1 cZ] 30)) := (Below.refl _ _).alloc (Nat.le_refl _) _
  refine (NG.out _ b1).mono ?_
  rintro e w1 ⟨G, U, I, A1, c1, bs, rfl, hgr, _, _, _, hb1⟩
  have HG := Lib.hid hgr
  have B1 := Lib.hid (below_next hb1 b1)
  have s1 : Reads (w1.alloc (.cells #[.string S] 9)) Any 1 (some ⟨w1.heap.size, 0, none⟩) 1 ([a].map bst) := by
    have := Reads.new w1 [.string S] 1 1 9 Any trivial rfl
    rw [HS.out] at this ⊢
    exact this
  have b2 : Below w1.heap.size w1 (w1.alloc (.cells #[.string S] 9)) := (Below.refl _ _).alloc (Nat.le_refl _) _
  obtain ⟨w2, hw2⟩ : ∃ V, V = w1.alloc (.cells #[.string S] 9) := ⟨_, rfl⟩
  have gr2 := hgr.below b2
  rw [← hw2] at s1 b2 gr2
  obtain ⟨u1, u2⟩ := useOf_at (ls := usesA fs z) HA.out hui.out.1
  obtain ⟨bk, hbk⟩ : ∃ bk, bs[nmA.idxOf a]? = some bk := ⟨_, List.getElem?_eq_getElem (by rw [gr2.lb]; exact (List.getElem?_eq_some_iff.1 u1).1)⟩
  have lk := gr2.get u1 hbk false w2 rfl
  simp only [Bool.false_eq_true, if_false] at lk
  rw [show bst a = .string S from by rw [HS.out]] at lk
  have g0 := gr2.g.cell 0
  simp only [List.getElem?_cons_zero] at g0
  have lg := lt_of_cell g0
  have hul : (useOf nmA (usesA fs z) a).length ≤ 10 := hui.out.len a
  have SO := Lib.hid (sorted_any bk (useOf nmA (usesA fs z) a) w2 (gr2.s _ bk _ hbk u2) (by omega))
  have HU := Lib.hid hul
  have HB2 := Lib.hid (And.intro s1 b2)
  have HG2 := Lib.hid gr2
  have HW2 := Lib.hid hw2
  clear hgr hb1 b1 s1 b2 gr2 u1 u2 hbk hul hw2
  go_wp2_with (fail)
  rw [← HW2.out]
  refine (has_any G U I _ nmA imA bs _ _ HG2.out Any _ _ [a] 1 rfl (by omega) HB2.out.1 (fun s hs => by simp at hs; rw [hs]; exact HA.out)).mono ?_
  rintro e w9 ⟨rfl, rfl⟩
  go_wp2_with (fail)
  refine SO.out.mono ?_
  rintro e w4 ⟨A4, c4, rfl, _, _, hr4, hb4⟩
  have H4 := Lib.hid (And.intro hr4 (below_next (below_next hb4 HB2.out.2) B1.out))
  clear hr4 hb4
  go_wp2_with (fail)
  go_ret2
  exact ⟨A4, c4, _, rfl, rfl, HU.out, H4.out.1.imp (by omega) (fun _ _ _ => trivial), H4.out.2⟩
/-- what has been found dead: the names that are not alive, of those that have come up -/
structure DdP (O D : List Bs) (left : List Bs) : Prop where
  nd : D.Nodup
  sub : ∀ s ∈ D, s ∈ nmA ∧ s ∉ O
  all : ∀ s ∈ nmA, s ∉ O → s ∈ D ∨ s ∈ left
set_option maxRecDepth 100000 in
set_option maxHeartbeats 4000000 in
theorem qdead_any (cs : List Value) (fs : List Md.Fn) (z : Bd) (w : World) (hm : ModAt w Any cs fs z) (hbd : ∀ f ∈ fs, BdOk f.2) (hz : BdOk z) :
    Calls Tryz.prog 18 #[.agg cs.toArray] w fun e w' => ∃ A c n O D, e = .returned (.slice A n c) ∧ n = D.length ∧ n ≤ 10 ∧ Reads w' Any 1 A n ((srt D).map bst) ∧ ReachOf nmA (usesA fs z) [[90]] O ∧ (∀ s ∈ nmA, s ∈ D ↔ s ∉ O) ∧ Below w.heap.size w w' := by
  have NG := Lib.hid (fun (V : World) (hV : Below w.heap.size w V) => newGraph_any cs fs z V (hm.keep (Same.any hV)) hbd hz)
  have hui := Lib.hid (usesA_in hm.ei.1 hbd hz)
  obtain ⟨⟨AD, cD, AM, cM, AF, cF, AZ, cZ, vss, vs, rfl, _⟩, _⟩ := hm
  clear hbd hz
  have hmm := @run_makeMap Tryz.prog
  go_enter Tryz.func18, Tryz.ntmps18
  go_wp2_with (fail)
  have b1 : Below w.heap.size w (w.alloc (.cells #[bst [109], .int .i64 1, .slice none 0 0, .slice AD 1 cD, .slice none 0 0, .slice none 0 0, .slice AF 8 cF, .slice AZ 1 cZ] 30)) := (Below.refl _ _).alloc (Nat.le_refl _) _
  refine (NG.out _ b1).mono ?_
  rintro e w1 ⟨G, U, I, A1, c1, bs, rfl, hgr, _, _, hr1, hb1⟩
  have g2 := hgr.g.cell 2
  simp only [List.getElem?_cons_zero, List.getElem?_cons_succ] at g2
  have lg := lt_of_cell g2
  have B1 := Lib.hid (below_next hb1 b1)
  have RC := Lib.hid (reach_any G U I _ nmA imA bs _ _ hgr hui.out (Nat.le_refl _) Any A1 c1 1 [[90]] hr1 rfl (by simp) (fun s hs => by simp at hs; rw [hs]; decide))
  have HG := Lib.hid hgr
  clear hgr hr1 hb1 b1
  go_wp2_with (fail)
  refine RC.out.mono ?_
  rintro e w2 ⟨bo, O, rfl, hso, hro, hb2⟩
  obtain ⟨w3, hw3⟩ : ∃ V, V = w2.alloc (.map #[] 0) := ⟨_, rfl⟩
  obtain ⟨b5, hb5⟩ : ∃ b, b = w2.heap.size := ⟨_, rfl⟩
  have b23 : Below w2.heap.size w2 w3 := by rw [hw3]; exact (Below.refl _ _).alloc (Nat.le_refl _) _
  have so3 : SetAt w3 bo O := hso.below b23
  have sd3 : SetAt w3 b5 [] := by rw [hw3, hb5]; exact MapOf.new w2
  have gr3 := HG.out.below (below_next b23 hb2)
  have g0 := gr3.g.cell 0
  simp only [List.getElem?_cons_zero] at g0
  have lg0 := lt_of_cell g0
  have hob : bo < b5 := by rw [hb5]; exact MapOf.lt hso
  have hUb : U < w1.heap.size := HG.out.u.lt
  have h12 : w1.heap.size ≤ b5 := by rw [hb5]; exact hb2.size
  have hUo : w1.heap.size ≤ b5 := h12
  have H3 := Lib.hid (And.intro so3 (And.intro sd3 (And.intro gr3 (And.intro hro (below_next (below_next b23 hb2) B1.out)))))
  have HU := Lib.hid (And.intro hob (And.intro hUb h12))
  have HW3 := Lib.hid (And.intro hw3 hb5)
  clear hso hro hb2 hw3 hb5 b23 so3 sd3 gr3 hob hUb h12 hUo g2 lg
  go_upto_region 4 with (fail)
  rw [← HW3.out.1, ← HW3.out.2]
  go_wp2_with (refine wpList_mrange _ rfl (.tmp 19) _ rfl Tryz.underlying64 rfl (by exact H3.out.2.2.1.u) ?_; intro w4 hit hb4 hsz)
  go_frame
  obtain ⟨R, hR⟩ : ∃ R, R = w3.heap.size := ⟨_, rfl⟩
  rw [← hR] at hit ⊢
  have hb3l : b5 < w3.heap.size := MapOf.lt H3.out.2.1
  have hw3s : w1.heap.size ≤ w3.heap.size := by have := HU.out.2.2; omega
  have hUR : U ≠ R := by have := HU.out.2.1; omega
  have HI7 := Lib.hid (And.intro hit (And.intro (H3.out.1.below hb4) (And.intro (H3.out.2.1.below hb4) (below_next hb4 H3.out.2.2.2.2))))
  have HRr := Lib.hid (show w.heap.size ≤ R ∧ b5 < R ∧ w.heap.size ≤ b5 from ⟨by have := H3.out.2.2.2.2.size; omega, by omega, by have := B1.out.size; have := HU.out.2.2; omega⟩)
  obtain ⟨L, hL⟩ : ∃ L, L = zipU nmA bs := ⟨_, rfl⟩
  have HL := Lib.hid (show L.map (·.1) = nmA ∧ L.length = 10 from by
    rw [hL]
    have h1 := zipU_fst (nm := nmA) (bs := bs) HG.out.lb
    exact ⟨h1, by have h2 := congrArg List.length h1; rw [List.length_map] at h2; exact h2⟩)
  rw [← hL] at HI7
  clear hit hb4 hsz hR hb3l hw3s hL g0 lg0
  go_loopg [6] L.length (fun g _ wr => ∃ left D, Hid (left.length = g ∧ IterOf bst okB wr U R L left ∧ (∀ p ∈ left, p ∈ L) ∧ SetAt wr bo O ∧ SetAt wr b5 D ∧ Below w.heap.size w wr) ∧ Hid (DdP O D (left.map (·.1))))
  case atStart => exact ⟨L, [], ⟨rfl, HI7.out.1, fun _ h => h, HI7.out.2.1, HI7.out.2.2.1, HI7.out.2.2.2⟩, ⟨List.nodup_nil, by simp, fun s hs _ => .inr (by rw [HL.out.1]; exact hs)⟩⟩
  case round =>
    obtain ⟨left, D, HJ, HD⟩ := hrel
    clear HI7
    go_wp2_with (refine wpList_mnext _ rfl (.tmp 20) rfl rfl HJ.out.2.1 hUR (fun h0 => ?_) ?_; rotate_left; intro x v l1 l2 w8 h0 hit8 hg8 hs8 hent; have hx : x ∈ nmA := (by rw [← HL.out.1]; exact List.mem_map.2 ⟨(x, v), HJ.out.2.2.1 _ (by rw [h0]; simp), rfl⟩); have hok : okB x := HG.out.okn hx; have so8 : SetAt w8 bo O := HJ.out.2.2.2.1.grown hg8 (by intro e; injection e with e; have := HU.out.1; have := HRr.out.2.1; omega); have sd8 : SetAt w8 b5 D := HJ.out.2.2.2.2.1.grown hg8 (by intro e; injection e with e; have := HRr.out.2.1; omega); have lk8 : (Instr.lookup 63 (.map (some bo)) (bst x) false).run Tryz.prog w8 = .ok (.bool (decide (x ∈ O))) w8 := (by
          have h1 := so8.lookup enc_B Tryz.underlying63 zero_bl (a := x) hok false
          rw [mget_set] at h1
          by_cases h : x ∈ O
          · rw [if_pos h] at h1; rw [decide_eq_true h]; exact h1
          · rw [if_neg h] at h1; rw [decide_eq_false h]; exact h1); have hb8 : Below w.heap.size w w8 := (HJ.out.2.2.2.2.2.grown hg8 HJ.out.2.2.2.2.2.size (fun q hq => by injection hq with hq; have := HRr.out.1; omega)); obtain ⟨w9, up, sd9, hg9⟩ := MapOf.update enc_B sd8 Tryz.underlying63 hok (.bool true); rw [mput_set] at sd9; have H8 := Lib.hid (And.intro hb8 (And.intro h0 (And.intro hit8 (And.intro so8 sd8)))); have H9 := Lib.hid (And.intro sd9 (And.intro hg9 hx)); clear h0 hb8 hit8 hg8 hs8 so8 sd8 sd9 hg9 hx hok)
    · rename_i hno
      have hxO : x ∉ O := by simpa using hno
      obtain ⟨hb8, h0, hit8, so8, sd8⟩ := H8.out
      obtain ⟨sd9, hg9, hx⟩ := H9.out
      have hb9 : Below w.heap.size w w9 := hb8.grown hg9 hb8.size (fun q hq => by injection hq with hq; have := HRr.out.2.2; omega)
      have so9 : SetAt w9 bo O := so8.grown hg9 (by intro e; injection e with e; have := HU.out.1; omega)
      have it9 : IterOf bst okB w9 U R L (l1 ++ l2) := hit8.same (hg9.block U hit8.lt.1 (by intro e; injection e with e; have := HU.out.2; omega)) (hg9.block R hit8.lt.2 (by intro e; injection e with e; have := HRr.out.2.1; omega))
      have hD9 : DdP O (insF x D) ((l1 ++ l2).map (·.1)) := ⟨insF_nodup HD.out.nd, fun s hs => by
          rcases mem_insF.1 hs with h | h
          · exact HD.out.sub s h
          · subst h
            exact ⟨hx, hxO⟩, fun s h1 h2 => by
          rcases HD.out.all s h1 h2 with h | h
          · exact .inl (mem_insF.2 (.inl h))
          · rw [h0, List.map_append, List.map_cons] at h
            rcases List.mem_append.1 h with h | h
            · exact .inr (by rw [List.map_append]; exact List.mem_append_left _ h)
            · rcases List.mem_cons.1 h with h | h
              · exact .inl (mem_insF.2 (.inr h))
              · exact .inr (by rw [List.map_append]; exact List.mem_append_right _ h)⟩
      have HE := Lib.hid (show (l1 ++ l2).length < left.length ∧ ∀ p ∈ l1 ++ l2, p ∈ L from ⟨by rw [h0]; simp, fun p hp => HJ.out.2.2.1 p (by rw [h0]; rcases List.mem_append.1 hp with hp | hp; exact List.mem_append_left _ hp; exact List.mem_append_right _ (List.mem_cons_of_mem _ hp))⟩)
      have HF := Lib.hid (And.intro it9 (And.intro so9 (And.intro sd9 (And.intro hb9 hD9))))
      clear hno hxO hb8 h0 hit8 so8 sd8 sd9 hg9 hx hb9 so9 it9 hD9
      go_roundg (l1 ++ l2).length
      case measure => have := HE.out.1; have := HJ.out.1; omega
      case rel => exact ⟨l1 ++ l2, insF x D, ⟨rfl, HF.out.1, HE.out.2, HF.out.2.1, HF.out.2.2.1, HF.out.2.2.2.1⟩, HF.out.2.2.2.2⟩
    · rename_i hno
      have hxO : x ∈ O := by simpa using hno
      obtain ⟨hb8, h0, hit8, so8, sd8⟩ := H8.out
      have hD9 : DdP O D ((l1 ++ l2).map (·.1)) := ⟨HD.out.nd, HD.out.sub, fun s h1 h2 => by
          rcases HD.out.all s h1 h2 with h | h
          · exact .inl h
          · rw [h0, List.map_append, List.map_cons] at h
            rcases List.mem_append.1 h with h | h
            · exact .inr (by rw [List.map_append]; exact List.mem_append_left _ h)
            · rcases List.mem_cons.1 h with h | h
              · exact absurd (h ▸ hxO) h2
              · exact .inr (by rw [List.map_append]; exact List.mem_append_right _ h)⟩
      have HE := Lib.hid (show (l1 ++ l2).length < left.length ∧ ∀ p ∈ l1 ++ l2, p ∈ L from ⟨by rw [h0]; simp, fun p hp => HJ.out.2.2.1 p (by rw [h0]; rcases List.mem_append.1 hp with hp | hp; exact List.mem_append_left _ hp; exact List.mem_append_right _ (List.mem_cons_of_mem _ hp))⟩)
      have HF := Lib.hid (And.intro hit8 (And.intro so8 (And.intro sd8 (And.intro hb8 hD9))))
      clear hno hxO hb8 h0 hit8 so8 sd8 hD9
      go_roundg (l1 ++ l2).length
      case measure => have := HE.out.1; have := HJ.out.1; omega
      case rel => exact ⟨l1 ++ l2, D, ⟨rfl, HF.out.1, HE.out.2, HF.out.2.1, HF.out.2.2.1, HF.out.2.2.2.1⟩, HF.out.2.2.2.2⟩
    · have hD10 : D.length ≤ 10 := nodup_len (k := nmA) HD.out.nd (fun s hs => (HD.out.sub s hs).1)
      have H0 := Lib.hid h0
      refine (sorted_any b5 D _ HJ.out.2.2.2.2.1 (by omega)).mono ?_
      rintro e w9 ⟨A9, c9, rfl, _, _, hr9, hb9⟩
      have H9 := Lib.hid (And.intro hr9 (And.intro (below_next hb9 HJ.out.2.2.2.2.2) hD10))
      clear hr9 hb9 hD10 h0
      go_wp2_with (fail)
      go_ret
      refine ⟨A9, c9, D.length, O, D, rfl, rfl, H9.out.2.2, H9.out.1.imp (by omega) (fun _ _ _ => trivial), H3.out.2.2.2.1, fun s hs => ⟨fun h => (HD.out.sub s h).2, fun h => (HD.out.all s hs h).elim id (fun h => by rw [H0.out] at h; simp at h)⟩, H9.out.2.1⟩
end Go.Proofs.YtaealapgebbnlaaGreatDoor
