/- Contract of query.Reach at the laws' module. -/
import Derived.Test.YtaealapgebbnlaaGreatDoorQrReach
set_option linter.unusedVariables false
namespace Go.Md
theorem addAll_mem {n : Bs} {ts l : List Bs} {s : Bs} (h : s ∈ addAll n ts l) : s ∈ l ∨ s ∈ ts := by
  induction ts generalizing l with
  | nil => exact .inl h
  | cons t r ih =>
    rcases ih (l := addF n t l) h with h | h
    · rcases mem_addF.1 h with h | ⟨h, _⟩
      · exact .inl h
      · exact .inr (by simp [h])
    · exact .inr (List.mem_cons_of_mem _ h)
end Go.Md
namespace Go.Proofs.YtaealapgebbnlaaGreatDoor
open Go.RowKit Go.Mem Go.Md Go.Maps
theorem heads_in {b : Bd} (h : BdOk b) : ∀ t ∈ heads b, t ∈ nmA := by
  intro t ht
  obtain ⟨i, hi, e⟩ := List.mem_iff_getElem.1 ht
  have hi2 : i < (texts b).length := by rw [← heads_len]; exact hi
  obtain ⟨⟨j, hj⟩, _⟩ := bdOk_res h i _ t (List.getElem?_eq_getElem hi2) (by rw [List.getElem?_eq_getElem hi, e])
  exact List.mem_of_getElem? hj
theorem usesA_in {fs : List Md.Fn} {z : Bd} (he : fs.length = 8) (hbd : ∀ f ∈ fs, BdOk f.2) (hz : BdOk z) : UsesIn nmA (usesA fs z) := by
  refine ⟨by simp [usesA, nmA, he], ?_⟩
  have k : ∀ n b, BdOk b → (addAll n (heads b) []).Nodup ∧ ∀ t ∈ addAll n (heads b) [], t ∈ nmA := fun n b hb => ⟨addAll_nodup List.nodup_nil, fun t ht => (addAll_mem ht).elim (by simp) (heads_in hb t)⟩
  intro l hl
  unfold usesA at hl
  rcases List.mem_cons.1 hl with rfl | hl
  · exact ⟨List.nodup_nil, by simp⟩
  · rcases List.mem_cons.1 hl with rfl | hl
    · exact k _ _ hz
    · obtain ⟨f, hf, rfl⟩ := List.mem_map.1 hl
      exact k _ _ (hbd f hf)
set_option maxRecDepth 100000 in
set_option maxHeartbeats 4000000 in
theorem qreach_any (cs : List Value) (fs : List Md.Fn) (z : Bd) (w : World) (hm : ModAt w Any cs fs z) (hbd : ∀ f ∈ fs, BdOk f.2) (hz : BdOk z) (a : Bs) (ha : a ∈ nmA) :
    Calls Tryz.prog 20 #[.agg cs.toArray, bst a] w fun e w' => ∃ A c n O, e = .returned (.tuple #[.slice A n c, .int .i64 0]) ∧ n = O.length ∧ n ≤ 10 ∧ Reads w' Any 1 A n ((srt O).map bst) ∧ ReachOf nmA (usesA fs z) [a] O ∧ Below w.heap.size w w' := by
  have NG := Lib.hid (fun (V : World) (hV : Below w.heap.size w V) => newGraph_any cs fs z V (hm.keep (Same.any hV)) hbd hz)
  have hui := Lib.hid (usesA_in hm.ei.1 hbd hz)
  obtain ⟨⟨AD, cD, AM, cM, AF, cF, AZ, cZ, vss, vs, rfl, _⟩, _⟩ := hm
  obtain ⟨S, hS⟩ : ∃ S : ByteArray, S = ⟨a.toArray⟩ := ⟨_, rfl⟩
  rw [show bst a = .string S from by rw [hS]]
  have HS := Lib.hid hS
  have HA := Lib.hid ha
  clear hbd hz hS ha
  go_enter Tryz.func20, Tryz.ntmps20
  go_wp2_with (fail)
  have b1 : Below w.heap.size w (w.alloc (.cells #[bst [109], .int .i64 1, .slice none 0 0, .slice AD 1 cD, .slice none 0 0, .slice none 0 0, .slice AF 8 cF, .slice AZ 1 cZ] 30)) := (Below.refl _ _).alloc (Nat.le_refl _) _
  refine (NG.out _ b1).mono ?_
  rintro e w1 ⟨G, U, I, A1, c1, bs, rfl, hgr, _, _, _, hb1⟩
  have HG := Lib.hid hgr
  have B1 := Lib.hid (below_next hb1 b1)
  have s1 : Reads (w1.alloc (.cells #[.string S] 9)) Any 1 (some ⟨w1.heap.size, 0, none⟩) 1 ([a].map bst) := by
    have := Reads.new w1 [.string S] 1 1 9 Any trivial rfl
    rw [HS.out] at this ⊢
    exact this
  have b2 : Below w1.heap.size w1 (w1.alloc (.cells #[.string S] 9)) := (Below.refl _ _).alloc (Nat.le_refl _) _
  have s2 : Reads ((w1.alloc (.cells #[.string S] 9)).alloc (.cells #[.string S] 9)) Any 1 (some ⟨w1.heap.size + 1, 0, none⟩) 1 ([a].map bst) := by
    have := Reads.new (w1.alloc (.cells #[.string S] 9)) [.string S] 1 1 9 Any trivial rfl
    rw [World.size_alloc] at this
    rw [HS.out] at this ⊢
    exact this
  have b3 : Below w1.heap.size w1 ((w1.alloc (.cells #[.string S] 9)).alloc (.cells #[.string S] 9)) := b2.alloc b2.size _
  have HB2 := Lib.hid (And.intro s1 b2)
  have HB3 := Lib.hid (And.intro s2 b3)
  clear hgr hb1 b1 s1 b2 s2 b3
  go_wp2_with (fail)
  refine (has_any G U I _ nmA imA bs _ _ (HG.out.below HB2.out.2) Any _ _ [a] 1 rfl (by omega) HB2.out.1 (fun s hs => by simp at hs; rw [hs]; exact HA.out)).mono ?_
  rintro e w2 ⟨rfl, rfl⟩
  go_wp2_with (fail)
  refine (reach_any G U I _ nmA imA bs _ _ (HG.out.below HB3.out.2) hui.out (Nat.le_refl _) Any _ _ 1 [a] HB3.out.1 rfl (by simp) (fun s hs => by simp at hs; rw [hs]; exact HA.out)).mono ?_
  rintro e w3 ⟨b, O, rfl, hso, hro, hb3⟩
  have hO : O.length ≤ 10 := nodup_len hro.nd hro.on
  have HO := Lib.hid (And.intro hro (And.intro hO (below_next hb3 HB3.out.2)))
  have SO := Lib.hid (sorted_any b O w3 hso (by omega))
  clear hso hro hb3 hO
  go_wp2_with (fail)
  refine SO.out.mono ?_
  rintro e w4 ⟨A4, c4, rfl, _, _, hr4, hb4⟩
  have H4 := Lib.hid (And.intro hr4 (below_next (below_next hb4 HO.out.2.2) B1.out))
  clear hr4 hb4
  go_wp2_with (fail)
  go_ret2
  exact ⟨A4, c4, O.length, O, rfl, rfl, HO.out.2.1, H4.out.1.imp (by omega) (fun _ _ _ => trivial), HO.out.1, H4.out.2⟩
end Go.Proofs.YtaealapgebbnlaaGreatDoor
