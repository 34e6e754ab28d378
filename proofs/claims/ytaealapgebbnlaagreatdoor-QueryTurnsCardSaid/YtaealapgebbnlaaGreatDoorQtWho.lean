/- Contract of query.Who at the laws' module. -/
import Derived.Test.YtaealapgebbnlaaGreatDoorQrUses
set_option linter.unusedVariables false
namespace Go.Proofs.YtaealapgebbnlaaGreatDoor
open Go.RowKit Go.Mem Go.Md Go.Maps
/-- an entry of the uses: a name and its set -/
theorem Gr.entry {w : World} {G U I : Nat} {acts : Value} {nm : List Bs} {im : List (Bs × Value)} {bs : List Nat} {ls : List (List Bs)} (h : Gr w G U I acts nm im bs ls) {x : Bs} {v : Value} (hx : (x, v) ∈ zipU nm bs) : ∃ bk, v = .map (some bk) ∧ SetAt w bk (useOf nm ls x) := by
  obtain ⟨k, hk, e⟩ := List.mem_iff_getElem.1 hx
  have hl : (zipU nm bs).length = nm.length := by unfold zipU; rw [List.length_zip, List.length_map, h.lb, Nat.min_self]
  have hkn : k < nm.length := by omega
  have hkb : k < bs.length := by rw [h.lb]; exact hkn
  have hkl : k < ls.length := by rw [h.ll]; exact hkn
  have e2 : (zipU nm bs)[k] = (nm[k], Value.map (some bs[k])) := by simp [zipU]
  rw [e2] at e
  injection e with e3 e4
  refine ⟨bs[k], e4.symm, ?_⟩
  have hi : nm.idxOf x = k := by
    have h1 : nm.idxOf x < nm.length := List.idxOf_lt_length_iff.2 (e3 ▸ List.getElem_mem hkn)
    have h2 : nm[nm.idxOf x] = nm[k] := by rw [e3]; simp
    exact (List.getElem_inj h.nn).1 h2
  have hu : useOf nm ls x = ls[k] := by
    unfold useOf
    rw [hi, List.getElem?_eq_getElem hkl]
    rfl
  rw [hu]
  exact h.s k _ _ (List.getElem?_eq_getElem hkb) (List.getElem?_eq_getElem hkl)
/-- who has been found, of those that have come up -/
structure WhP (us : List (List Bs)) (b : Bs) (D : List Bs) (left : List Bs) : Prop where
  nd : D.Nodup
  sub : ∀ s ∈ D, s ∈ nmA ∧ b ∈ useOf nmA us s
  all : ∀ s ∈ nmA, b ∈ useOf nmA us s → s ∈ D ∨ s ∈ left
set_option maxRecDepth 100000 in
set_option maxHeartbeats 4000000 in
theorem qwho_any (cs : List Value) (fs : List Md.Fn) (z : Bd) (w : World) (hm : ModAt w Any cs fs z) (hbd : ∀ f ∈ fs, BdOk f.2) (hz : BdOk z) (b : Bs) (hb : b ∈ nmA) :
    Calls Tryz.prog 7 #[.agg cs.toArray, bst b] w fun e w' => ∃ A c n D, e = .returned (.tuple #[.slice A n c, .int .i64 0]) ∧ n = D.length ∧ n ≤ 10 ∧ Reads w' Any 1 A n ((srt D).map bst) ∧ (∀ s ∈ nmA, s ∈ D ↔ b ∈ useOf nmA (usesA fs z) s) ∧ Below w.heap.size w w' := by
  have NG := Lib.hid (fun (V : World) (hV : Below w.heap.size w V) => newGraph_any cs fs z V (hm.keep (Same.any hV)) hbd hz)
  obtain ⟨⟨AD, cD, AM, cM, AF, cF, AZ, cZ, vss, vs, rfl, _⟩, _⟩ := hm
  obtain ⟨us, hus⟩ : ∃ u, u = usesA fs z := ⟨_, rfl⟩
  rw [← hus] at NG ⊢
  obtain ⟨S, hS⟩ : ∃ S : ByteArray, S = ⟨b.toArray⟩ := ⟨_, rfl⟩
  have eb : bst b = .string S := by rw [hS]
  rw [eb]
  have HB := Lib.hid (And.intro hb eb)
  clear hbd hz hus hb hS eb
  have hmm := @run_makeMap Tryz.prog
  go_enter Tryz.func7, Tryz.ntmps7
  go_wp2_with (fail)
  have b1 : Below w.heap.size w (w.alloc (.cells #[bst [109], .int .i64 1, .slice none 0 0, .slice AD 1 cD, .slice none 0 0, .slice none 0 0, .slice AF 8 cF, .slice AZ 1 cZ] 30)) := (Below.refl _ _).alloc (Nat.le_refl _) _
  refine (NG.out _ b1).mono ?_
  rintro e w1 ⟨G, U, I, A1, c1, bs, rfl, hgr, _, _, _, hb1⟩
  have B1 := Lib.hid (below_next hb1 b1)
  obtain ⟨w2, hw2⟩ : ∃ V, V = w1.alloc (.cells #[.string S] 9) := ⟨_, rfl⟩
  have b12 : Below w1.heap.size w1 w2 := by rw [hw2]; exact (Below.refl _ _).alloc (Nat.le_refl _) _
  have s2 : Reads w2 Any 1 (some ⟨w1.heap.size, 0, none⟩) 1 ([b].map bst) := by
    rw [hw2, List.map_cons, List.map_nil, HB.out.2]
    exact Reads.new w1 [.string S] 1 1 9 Any trivial rfl
  obtain ⟨w3, hw3⟩ : ∃ V, V = w2.alloc (.map #[] 0) := ⟨_, rfl⟩
  obtain ⟨b5, hb5⟩ : ∃ b, b = w2.heap.size := ⟨_, rfl⟩
  have b23 : Below w2.heap.size w2 w3 := by rw [hw3]; exact (Below.refl _ _).alloc (Nat.le_refl _) _
  have sd3 : SetAt w3 b5 [] := by rw [hw3, hb5]; exact MapOf.new w2
  have b13 := below_next b23 b12
  have gr3 := hgr.below b13
  have g0 := gr3.g.cell 0
  simp only [List.getElem?_cons_zero] at g0
  have lg0 := lt_of_cell g0
  have h12 : w1.heap.size ≤ b5 := by rw [hb5]; exact b12.size
  have hUb : U < w1.heap.size := hgr.u.lt
  have HG := Lib.hid hgr
  have H2 := Lib.hid (And.intro s2 (hgr.below b12))
  have H3 := Lib.hid (And.intro sd3 (And.intro gr3 b13))
  have HU := Lib.hid (And.intro hUb h12)
  have HW3 := Lib.hid (And.intro hw2 (And.intro hw3 hb5))
  clear hgr hb1 b1 hw2 b12 s2 hw3 hb5 b23 sd3 b13 gr3 h12 hUb
  go_wp2_with (fail)
  rw [← HW3.out.1]
  refine (has_any G U I _ nmA imA bs _ _ H2.out.2 Any _ _ [b] 1 rfl (by omega) H2.out.1 (fun s hs => by simp at hs; rw [hs]; exact HB.out.1)).mono ?_
  rintro e w9 ⟨rfl, rfl⟩
  go_upto_region 6 with (fail)
  rw [← HW3.out.2.1, ← HW3.out.2.2]
  go_wp2_with (refine wpList_mrange _ rfl (.tmp 24) _ rfl Tryz.underlying64 rfl (by exact H3.out.2.1.u) ?_; intro w4 hit hb4 hsz)
  go_frame
  obtain ⟨R, hR⟩ : ∃ R, R = w3.heap.size := ⟨_, rfl⟩
  rw [← hR] at hit ⊢
  have hb3l : b5 < w3.heap.size := MapOf.lt H3.out.1
  have hUR : U ≠ R := by have h1 := HU.out.1; have h2 := HU.out.2; omega
  have HI7 := Lib.hid (And.intro hit (And.intro (H3.out.1.below hb4) (below_next hb4 H3.out.2.2)))
  have HRr := Lib.hid (show w1.heap.size ≤ R ∧ b5 < R ∧ w1.heap.size ≤ b5 from ⟨by have := HU.out.2; omega, by omega, HU.out.2⟩)
  obtain ⟨L, hL⟩ : ∃ L, L = zipU nmA bs := ⟨_, rfl⟩
  have HL := Lib.hid (And.intro hL (show L.map (·.1) = nmA from by rw [hL]; exact zipU_fst (nm := nmA) (bs := bs) HG.out.lb))
  rw [← hL] at HI7
  clear hit hb4 hsz hR hb3l hL g0 lg0
  go_loopg [9] L.length (fun g _ wr => ∃ left D, Hid (left.length = g ∧ IterOf bst okB wr U R L left ∧ (∀ p ∈ left, p ∈ L) ∧ SetAt wr b5 D ∧ Below w1.heap.size w1 wr) ∧ Hid (WhP us b D (left.map (·.1))))
  case atStart => exact ⟨L, [], ⟨rfl, HI7.out.1, fun _ h => h, HI7.out.2.1, HI7.out.2.2⟩, ⟨List.nodup_nil, by simp, fun s hs _ => .inr (by rw [HL.out.2]; exact hs)⟩⟩
  case round =>
    obtain ⟨left, D, HJ, HD⟩ := hrel
    clear HI7
    go_wp2_with (refine wpList_mnext _ rfl (.tmp 25) rfl rfl HJ.out.2.1 hUR (fun h0 => ?_) ?_; rotate_left; intro x v l1 l2 w8 h0 hit8 hg8 hs8 hent; have hxv : (x, v) ∈ L := HJ.out.2.2.1 _ (by rw [h0]; simp); have hx : x ∈ nmA := (by rw [← HL.out.2]; exact List.mem_map.2 ⟨(x, v), hxv, rfl⟩); have hok : okB x := HG.out.okn hx; have hb8 : Below w1.heap.size w1 w8 := (HJ.out.2.2.2.2.grown hg8 HJ.out.2.2.2.2.size (fun q hq => by injection hq with hq; have := HRr.out.1; omega)); obtain ⟨bk, hv, hset⟩ := (HG.out.below hb8).entry (x := x) (v := v) (by rw [← HL.out.1]; exact hxv); subst hv; have sd8 : SetAt w8 b5 D := HJ.out.2.2.2.1.grown hg8 (by intro e; injection e with e; have := HRr.out.2.1; omega); have lk8 : (Instr.lookup 63 (.map (some bk)) (.string S) false).run Tryz.prog w8 = .ok (.bool (decide (b ∈ useOf nmA us x))) w8 := (by
          have h1 := hset.lookup enc_B Tryz.underlying63 zero_bl (a := b) (HG.out.okn HB.out.1) false
          rw [mget_set, HB.out.2] at h1
          by_cases h : b ∈ useOf nmA us x
          · rw [if_pos h] at h1; rw [decide_eq_true h]; exact h1
          · rw [if_neg h] at h1; rw [decide_eq_false h]; exact h1); obtain ⟨w9, up, sd9, hg9⟩ := MapOf.update enc_B sd8 Tryz.underlying63 hok (.bool true); rw [mput_set] at sd9; have H8 := Lib.hid (And.intro hb8 (And.intro h0 (And.intro hit8 sd8))); have H9 := Lib.hid (And.intro sd9 (And.intro hg9 hx)); clear h0 hb8 hit8 hg8 hs8 sd8 sd9 hg9 hx hok hxv hset)
    · rename_i hyes
      have hxO : b ∈ useOf nmA us x := by simpa using hyes
      obtain ⟨hb8, h0, hit8, sd8⟩ := H8.out
      obtain ⟨sd9, hg9, hx⟩ := H9.out
      have hb9 : Below w1.heap.size w1 w9 := hb8.grown hg9 hb8.size (fun q hq => by injection hq with hq; have := HRr.out.2.2; omega)
      have it9 : IterOf bst okB w9 U R L (l1 ++ l2) := hit8.same (hg9.block U hit8.lt.1 (by intro e; injection e with e; have h1 := HU.out.1; have h2 := HU.out.2; omega)) (hg9.block R hit8.lt.2 (by intro e; injection e with e; have := HRr.out.2.1; omega))
      have hD9 : WhP us b (insF x D) ((l1 ++ l2).map (·.1)) := ⟨insF_nodup HD.out.nd, fun s hs => by
          rcases mem_insF.1 hs with h | h
          · exact HD.out.sub s h
          · subst h
            exact ⟨hx, hxO⟩, fun s h1 h2 => by
          rcases HD.out.all s h1 h2 with h | h
          · exact .inl (mem_insF.2 (.inl h))
          · rw [h0, List.map_append, List.map_cons] at h
            rcases List.mem_append.1 h with h | h
            · exact .inr (by rw [List.map_append]; exact List.mem_append_left _ h)
            · rcases List.mem_cons.1 h with h | h
              · exact .inl (mem_insF.2 (.inr h))
              · exact .inr (by rw [List.map_append]; exact List.mem_append_right _ h)⟩
      have HE := Lib.hid (show (l1 ++ l2).length < left.length ∧ ∀ p ∈ l1 ++ l2, p ∈ L from ⟨by rw [h0]; simp, fun p hp => HJ.out.2.2.1 p (by rw [h0]; rcases List.mem_append.1 hp with hp | hp; exact List.mem_append_left _ hp; exact List.mem_append_right _ (List.mem_cons_of_mem _ hp))⟩)
      have HF := Lib.hid (And.intro it9 (And.intro sd9 (And.intro hb9 hD9)))
      clear hyes hxO hb8 h0 hit8 sd8 sd9 hg9 hx hb9 it9 hD9
      go_roundg (l1 ++ l2).length
      case measure => have := HE.out.1; have := HJ.out.1; omega
      case rel => exact ⟨l1 ++ l2, insF x D, ⟨rfl, HF.out.1, HE.out.2, HF.out.2.1, HF.out.2.2.1⟩, HF.out.2.2.2⟩
    · rename_i hno
      have hxO : b ∉ useOf nmA us x := by simpa using hno
      obtain ⟨hb8, h0, hit8, sd8⟩ := H8.out
      have hD9 : WhP us b D ((l1 ++ l2).map (·.1)) := ⟨HD.out.nd, HD.out.sub, fun s h1 h2 => by
          rcases HD.out.all s h1 h2 with h | h
          · exact .inl h
          · rw [h0, List.map_append, List.map_cons] at h
            rcases List.mem_append.1 h with h | h
            · exact .inr (by rw [List.map_append]; exact List.mem_append_left _ h)
            · rcases List.mem_cons.1 h with h | h
              · exact absurd (by rw [show x = s from h.symm]; exact h2) hxO
              · exact .inr (by rw [List.map_append]; exact List.mem_append_right _ h)⟩
      have HE := Lib.hid (show (l1 ++ l2).length < left.length ∧ ∀ p ∈ l1 ++ l2, p ∈ L from ⟨by rw [h0]; simp, fun p hp => HJ.out.2.2.1 p (by rw [h0]; rcases List.mem_append.1 hp with hp | hp; exact List.mem_append_left _ hp; exact List.mem_append_right _ (List.mem_cons_of_mem _ hp))⟩)
      have HF := Lib.hid (And.intro hit8 (And.intro sd8 (And.intro hb8 hD9)))
      clear hno hxO hb8 h0 hit8 sd8 hD9
      go_roundg (l1 ++ l2).length
      case measure => have := HE.out.1; have := HJ.out.1; omega
      case rel => exact ⟨l1 ++ l2, D, ⟨rfl, HF.out.1, HE.out.2, HF.out.2.1, HF.out.2.2.1⟩, HF.out.2.2.2⟩
    · have hD10 : D.length ≤ 10 := nodup_len (k := nmA) HD.out.nd (fun s hs => (HD.out.sub s hs).1)
      have H0 := Lib.hid h0
      refine (sorted_any b5 D _ HJ.out.2.2.2.1 (by omega)).mono ?_
      rintro e w9 ⟨A9, c9, rfl, _, _, hr9, hb9⟩
      have H9 := Lib.hid (And.intro hr9 (And.intro (below_next (below_next hb9 HJ.out.2.2.2.2) B1.out) hD10))
      clear hr9 hb9 hD10 h0
      go_wp2_with (fail)
      go_ret2
      refine ⟨A9, c9, D.length, D, rfl, rfl, H9.out.2.2, H9.out.1.imp (by omega) (fun _ _ _ => trivial), fun s hs => ⟨fun h => (HD.out.sub s h).2, fun h => (HD.out.all s hs h).elim id (fun h => by rw [H0.out] at h; simp at h)⟩, H9.out.2.1⟩
end Go.Proofs.YtaealapgebbnlaaGreatDoor
