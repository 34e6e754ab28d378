/- Contract of query.Way at the laws' module. -/
import Derived.Test.YtaealapgebbnlaaQrRev
import Derived.Test.YtaealapgebbnlaaQrWayLaw
import Derived.Deep.LoopGhost
set_option linter.unusedVariables false
namespace Go.Proofs.Ytaealapgebbnlaa
open Go.RowKit Go.Mem Go.Md Go.Maps
/-- by whom each was reached first, as the map's entries -/
def frL (F : List (Bs × Bs)) : List (Bs × Value) := F.map fun p => (p.1, bst p.2)
theorem frL_none {F : List (Bs × Bs)} {t : Bs} (h : t ∉ F.map (·.1)) : mget (frL F) t = none := mget_none.2 fun p hp e => h (by
  obtain ⟨q, hq, rfl⟩ := List.mem_map.1 hp
  exact e ▸ List.mem_map.2 ⟨q, hq, rfl⟩)
theorem frL_some {F : List (Bs × Bs)} {t : Bs} (h : t ∈ F.map (·.1)) : ∃ x, mget (frL F) t = some (bst x) := by
  rcases hm : mget (frL F) t with _ | v
  · obtain ⟨p, hp, rfl⟩ := List.mem_map.1 h
    exact absurd rfl (mget_none.1 hm (p.1, bst p.2) (List.mem_map.2 ⟨p, hp, rfl⟩))
  · obtain ⟨q, _, e⟩ := List.mem_map.1 (mget_mem hm)
    injection e with e1 e2
    exact ⟨q.2, by rw [e2]⟩
theorem frL_at {F : List (Bs × Bs)} (hn : (F.map (·.1)).Nodup) {i : Nat} {s t : Bs} (h : F[i]? = some (s, t)) : mget (frL F) s = some (bst t) :=
  mget_at (by unfold frL; rw [List.map_map]; exact hn) (List.mem_map.2 ⟨(s, t), List.mem_of_getElem? h, rfl⟩)
theorem frL_put {F : List (Bs × Bs)} {t s : Bs} (h : t ∉ F.map (·.1)) : mput (frL F) t (bst s) = frL (F ++ [(t, s)]) := by
  unfold mput
  rw [frL_none h]
  simp [frL]
/-- in the midst of Way: the world, the map in block M, the queue v -/
structure WayAt (w wr : World) (M : Nat) (v : Value) (q : List Bs) (F : List (Bs × Bs)) : Prop where
  qu : Seg wr 9 1 v q.length (q.map bst)
  qb : ∀ b, v.ownBlock = some b → w.heap.size ≤ b ∧ b ≠ M
  mp : MapOf bst okB wr M (frL F)
  be : Below w.heap.size w wr
theorem WayAt.below {w wr w' : World} {M : Nat} {v : Value} {q : List Bs} {F : List (Bs × Bs)} (h : WayAt w wr M v q F) (hb : Below wr.heap.size wr w') : WayAt w w' M v q F :=
  ⟨h.qu.keep (fun b hv => hb.block b (h.qu.lt b hv)), h.qb, h.mp.below hb, h.be.trans (hb.mono h.be.size)⟩
set_option maxRecDepth 100000 in
set_option maxHeartbeats 8000000 in
theorem qway_any (cs : List Value) (fs : List Md.Fn) (z : Bd) (w : World) (hm : ModAt w Any cs fs z) (hbd : ∀ f ∈ fs, BdOk f.2) (hz : BdOk z) (a b : Bs) (ha : a ∈ nmA) (hb : b ∈ nmA) (O : List Bs) (hO : ReachOf nmA (usesA fs z) [a] O) :
    Calls Try.prog 11 #[.agg cs.toArray, bst a, bst b] w fun e w' => Below w.heap.size w w' ∧ ((b ∈ O ∧ ∃ A c n P, e = .returned (.tuple #[.slice A n c, .int .i64 0]) ∧ n = P.length ∧ Reads w' Any 1 A n (P.map bst) ∧ PathOf nmA (usesA fs z) a b P) ∨ (b ∉ O ∧ e = .returned (.tuple #[.slice none 0 0, .int .i64 4]))) := by
  have NG := Lib.hid (fun (V : World) (hV : Below w.heap.size w V) => newGraph_any cs fs z V (hm.keep (Same.any hV)) hbd hz)
  have hui := Lib.hid (usesA_in hm.ei.1 hbd hz)
  obtain ⟨⟨AD, cD, AM, cM, AF, cF, AZ, cZ, vss, vs, rfl, _⟩, _⟩ := hm
  have hmm := @run_makeMap Try.prog
  obtain ⟨SA, hSA⟩ : ∃ S : ByteArray, S = ⟨a.toArray⟩ := ⟨_, rfl⟩
  obtain ⟨SB, hSB⟩ : ∃ S : ByteArray, S = ⟨b.toArray⟩ := ⟨_, rfl⟩
  have ea : bst a = .string SA := by rw [hSA]
  have eb : bst b = .string SB := by rw [hSB]
  rw [ea, eb]
  have HS := Lib.hid (And.intro ea (And.intro eb (And.intro hSA hSB)))
  have HA := Lib.hid (And.intro ha (And.intro hb hO))
  clear hbd hz hSA hSB ea eb ha hb hO
  go_enter Try.func11, Try.ntmps11
  go_wp2_with (fail)
  have b1 : Below w.heap.size w (w.alloc (.cells #[bst [109], .int .i64 1, .slice none 0 0, .slice AD 1 cD, .slice none 0 0, .slice none 0 0, .slice AF 8 cF, .slice AZ 1 cZ] 30)) := (Below.refl _ _).alloc (Nat.le_refl _) _
  refine (NG.out _ b1).mono ?_
  rintro e w1 ⟨G, U, I, A1, c1, bs, rfl, hgr, _, _, _, hb1⟩
  have B1 := Lib.hid (below_next hb1 b1)
  obtain ⟨w2, hw2⟩ : ∃ V, V = w1.alloc (.cells #[.string SA, .string SB] 9) := ⟨_, rfl⟩
  have b12 : Below w1.heap.size w1 w2 := by rw [hw2]; exact (Below.refl _ _).alloc (Nat.le_refl _) _
  have s2 : Reads w2 Any 1 (some ⟨w1.heap.size, 0, none⟩) 2 ([a, b].map bst) := by
    rw [hw2]
    have := Reads.new w1 [.string SA, .string SB] 1 2 9 Any trivial rfl
    rw [List.map_cons, List.map_cons, List.map_nil, HS.out.1, HS.out.2.1]
    exact this
  obtain ⟨M, hM⟩ : ∃ b, b = w2.heap.size := ⟨_, rfl⟩
  have b23 : Below w2.heap.size w2 (w2.alloc (.map #[] 0)) := (Below.refl _ _).alloc (Nat.le_refl _) _
  have m3 : MapOf bst okB (w2.alloc (.map #[] 0)) M ([] : List (Bs × Value)) := by rw [hM]; exact MapOf.new w2
  obtain ⟨w4, up4, m4, g4⟩ := MapOf.update enc_B m3 Try.underlying71 (hgr.okn HA.out.1) (bst a)
  rw [show mput ([] : List (Bs × Value)) a (bst a) = frL [(a, a)] from rfl] at m4
  rw [HS.out.1, hM] at up4
  have b24 : Below w2.heap.size w2 w4 := b23.grown g4 b23.size (fun q hq => by injection hq with hq; omega)
  obtain ⟨w5, hw5⟩ : ∃ V, V = w4.alloc (.cells #[.string SA] 9) := ⟨_, rfl⟩
  obtain ⟨QB, hQB⟩ : ∃ b, b = w4.heap.size := ⟨_, rfl⟩
  have b45 : Below w4.heap.size w4 w5 := by rw [hw5]; exact (Below.refl _ _).alloc (Nat.le_refl _) _
  have fQ : Blk w5 QB 9 [.string SA] := by rw [hw5, hQB]; exact Blk.new w4 _ _
  have hMQ : QB ≠ M := by have := MapOf.lt m4; omega
  have hMw : w1.heap.size ≤ M := by have := b12.size; omega
  have hQw : w1.heap.size ≤ QB := by have := b12.size; have := b24.size; omega
  have WA0 : WayAt w1 w5 M (.slice (some ⟨QB, 0, none⟩) 1 1) [a] [(a, a)] := ⟨⟨rfl, .inr ⟨QB, 0, 1, [.string SA], rfl, fQ, Nat.le_refl _, by unfold maxLen; omega, by simp, by simp [HS.out.1]⟩⟩, fun b hb => by
      have : QB = b := by injection hb
      rw [← this]
      exact ⟨hQw, hMQ⟩, m4.below b45, (b12.trans (b24.mono b12.size)).trans (b45.mono (Nat.le_trans b12.size b24.size))⟩
  have H2 := Lib.hid (And.intro s2 (hgr.below b12))
  have HW2 := Lib.hid (And.intro hw2 (And.intro hM (And.intro hw5 hQB)))
  have HG := Lib.hid hgr
  have HM := Lib.hid hMw
  have H0 := Lib.hid WA0
  clear hgr hb1 b1 hw2 b12 s2 hM b23 m3 m4 g4 b24 hw5 hQB b45 fQ hMQ hMw hQw WA0
  go_wp2_with (fail)
  rw [← HW2.out.1]
  refine (has_any G U I _ nmA imA bs _ _ H2.out.2 Any _ _ [a, b] 2 rfl (by omega) H2.out.1 (fun s hs => by simp at hs; rcases hs with rfl | rfl; exact HA.out.1; exact HA.out.2.1)).mono ?_
  rintro e w9 ⟨rfl, rfl⟩
  go_wp2_with (fail)
  rw [← HW2.out.2.1, ← HW2.out.2.2.1, ← HW2.out.2.2.2]
  clear up4
  go_loopg [11] 19 (fun g v wr => ∃ q F A c, v = .slice A q.length c ∧ g = q.length + 2 * (10 - F.length) ∧ q.length + 2 * (10 - F.length) ≤ 30 ∧ Hid (WayAt w1 wr M (.slice A q.length c) q F) ∧ Hid (Wq nmA (usesA fs z) a F q))
  case atStart => exact ⟨[a], [(a, a)], some ⟨QB, 0, none⟩, 1, rfl, rfl, by simp, H0.out, Wq.start HA.out.1⟩
  case round =>
    obtain ⟨q, F, Aq, cq, rfl, hg, hq, HR, HP⟩ := hrel
    clear H0
    have hF10 : F.length ≤ 10 := HP.out.wf.len
    rcases q with _ | ⟨s, q'⟩
    · simp only [List.length_nil]
      clear hg hq
      have hkeys := HP.out.reach HA.out.2.2 b
      have lk := HR.out.mp.lookup enc_B Try.underlying71 zero_str (a := b) (HG.out.okn HA.out.2.1) true
      have HBW := Lib.hid (HR.out.be.mono (Nat.le_refl _))
      by_cases hbO : b ∈ O
      · have hbk := hkeys.2 hbO
        obtain ⟨x, hx⟩ := frL_some hbk
        rw [hx, HS.out.2.1] at lk
        simp only [Option.getD_some, Option.isSome_some, if_true] at lk
        obtain ⟨i0, HB0⟩ := Bk.start (nm := nmA) (ls := usesA fs z) hbk
        replace HB0 := Lib.hid HB0
        obtain ⟨wx, hwx⟩ : ∃ V, V = wr.alloc (.cells #[.string SB] 9) := ⟨_, rfl⟩
        obtain ⟨Bx, hBx⟩ : ∃ n, n = wr.heap.size := ⟨_, rfl⟩
        have bx : Below wr.heap.size wr wx := by rw [hwx]; exact (Below.refl _ _).alloc (Nat.le_refl _) _
        have ox : wx.ownsRow Bx 9 1 (.slice (some ⟨Bx, 0, none⟩) 1 1) 1 ([b].map bst) := by
          rw [hwx, hBx, List.map_cons, List.map_nil, HS.out.2.1]
          exact ⟨rfl, .inr ⟨wr.heap.size, 1, #[.string SB], rfl, Nat.le_refl _, Blk.new wr _ [.string SB], Nat.le_refl _, by unfold maxLen; omega, by simp, by simp⟩⟩
        have HX := Lib.hid (And.intro ox (And.intro (below_next bx HBW.out |> fun h => h) (HR.out.mp.below bx)))
        have HWX := Lib.hid (And.intro hwx hBx)
        have HMB := Lib.hid (show M < Bx ∧ w1.heap.size ≤ Bx ∧ Bx ≤ wx.heap.size from by rw [hBx]; exact ⟨MapOf.lt HR.out.mp, HR.out.be.size, bx.size⟩)
        have HbO := Lib.hid hbO
        clear hbk hx hwx hBx bx ox hkeys hbO
        go_wp2_with (fail)
        rw [← HWX.out.1, ← HWX.out.2]
        go_loopg [18, 19] i0 (fun g v18 v19 wr2 => ∃ s xs A c, v18 = .slice A xs.length c ∧ v19 = bst s ∧ Hid (wr2.ownsRow Bx 9 1 (.slice A xs.length c) xs.length (xs.map bst) ∧ Below w1.heap.size w1 wr2 ∧ MapOf bst okB wr2 M (frL F) ∧ Bx ≤ wr2.heap.size) ∧ Hid (Bk nmA (usesA fs z) F b s g xs))
        case atStart => exact ⟨b, [b], some ⟨Bx, 0, none⟩, 1, rfl, by rw [HS.out.2.1], ⟨HX.out.1, HX.out.2.1, HX.out.2.2, HMB.out.2.2⟩, HB0.out⟩
        case round =>
          obtain ⟨s, xs, A, c, rfl, rfl, HO, HK⟩ := hrel
          clear HB0 HX lk
          obtain ⟨S, hS⟩ : ∃ S : ByteArray, S = ⟨s.toArray⟩ := ⟨_, rfl⟩
          have es : bst s = .string S := by rw [hS]
          have hxl : xs.length + gk ≤ 10 := Nat.le_trans HK.out.ln HP.out.wf.len
          obtain ⟨n, hn⟩ : ∃ n, n = xs.length := ⟨_, rfl⟩
          rw [es, ← hn]
          by_cases hg0 : gk = 0
          · have hsa : s = a := (HK.out.stop HP.out.wf).2 hg0
            obtain rfl : S = SA := by rw [hS, HS.out.2.2.1, hsa]
            have hpa : PathOf nmA (usesA fs z) a b xs.reverse := by
              have h9 := HK.out
              rw [hg0] at h9
              exact h9.path HP.out.wf
            have hx0 : 0 < xs.length := by have := hpa.ne; rw [List.length_reverse] at this; exact this
            obtain ⟨g, rfl⟩ : ∃ g, A = some ⟨g, 0, none⟩ := by
              rcases HO.out.1.2 with ⟨h1, h0⟩ | ⟨g, cap, cur, hv, _⟩
              · omega
              · injection hv with h1 _ _
                exact ⟨g, h1⟩
            have RV := Lib.hid (reverse_any Bx g c xs wr HO.out.1 (by omega))
            have HPA := Lib.hid (And.intro hpa (And.intro hx0 (show w1.heap.size ≤ g from by have h1 := (HO.out.1.lt g rfl).1; have h2 := HMB.out.2.1; omega)))
            rw [← hn] at RV
            have HN := Lib.hid hn
            clear hsa hpa hx0 hS es hn hxl hg0
            go_wp2_with (fail)
            refine RV.out.mono ?_
            rintro e w9 ⟨rfl, hr9, hg9⟩
            have hb9 := below_next (HO.out.2.1.grown hg9 HO.out.2.1.size (fun q hq => by injection hq with hq; have := HPA.out.2.2; omega)) B1.out
            have H9 := Lib.hid (And.intro hr9 hb9)
            clear hr9 hg9 hb9
            go_wp2_with (fail)
            go_ret2
            exact ⟨H9.out.2, .inl ⟨HbO.out, some ⟨g, 0, none⟩, c, n, xs.reverse, rfl, by rw [List.length_reverse, HN.out], H9.out.1.imp (by omega) (fun _ _ _ => trivial), HPA.out.1⟩⟩
          · have hsa : ¬ S = SA := fun e => hg0 ((HK.out.stop HP.out.wf).1 (by
              rw [hS, HS.out.2.2.1] at e
              injection e with e
              have := congrArg Array.toList e
              simpa using this))
            have hne : (S.toList == SA.toList) = false := by rw [strq_eq]; exact decide_eq_false hsa
            obtain ⟨t, j, ht, hj, hK2⟩ := HK.out.next HP.out.wf hg0
            obtain ⟨T, hT⟩ : ∃ S : ByteArray, S = ⟨t.toArray⟩ := ⟨_, rfl⟩
            have et : bst t = .string T := by rw [hT]
            have hsn : s ∈ nmA := HP.out.wf.on s (List.mem_map.2 ⟨(s, t), List.mem_of_getElem? ht, rfl⟩)
            have lk := HO.out.2.2.1.lookup enc_B Try.underlying71 zero_str (a := s) (HG.out.okn hsn) false
            rw [frL_at HP.out.wf.nd ht, es, et] at lk
            simp only [Option.getD_some, Bool.false_eq_true, if_false] at lk
            have bx : Below wr.heap.size wr (wr.alloc (.cells #[.string T] 9)) := (Below.refl _ _).alloc (Nat.le_refl _) _
            have r8 : Reads (wr.alloc (.cells #[.string T] 9)) Any 1 (some ⟨wr.heap.size, 0, none⟩) 1 ([t].map bst) := by
              have := Reads.new wr [.string T] 1 1 9 Any trivial rfl
              rw [List.map_cons, List.map_nil, et]
              exact this
            have o8 := own_below HO.out.1 bx
            rw [← hn] at o8
            have H8 := Lib.hid (And.intro o8 (And.intro r8 (And.intro (HO.out.2.1.trans (bx.mono HO.out.2.1.size)) (And.intro (HO.out.2.2.1.below bx) (Nat.le_trans HO.out.2.2.2 bx.size)))))
            have HK2 := Lib.hid (And.intro hK2 hj)
            have HET := Lib.hid et
            have HN := Lib.hid (And.intro hn hxl)
            have hn10 : n ≤ 10 := by omega
            clear ht hT et hsn bx r8 o8 hK2 hj hsa hg0 hS es hn hxl
            go_wp2_with (at_builtin; refine app_stro (wr.alloc (.cells #[.string T] 9)) rfl (.tmp 90) (.tmp 92) rfl H8.out.1 rfl H8.out.2.1 rfl (strs_one _) (by omega) H8.out.2.2.2.2 ?_; intro v9 w9 own9 hg9 hat9; obtain ⟨A9, c9, rfl, _⟩ := own_form own9; have H9 := Lib.hid (And.intro own9 hg9); clear own9 hg9 hat9)
            have hlen : n + 1 = (xs ++ [t]).length := by rw [List.length_append, List.length_singleton, HN.out.1]
            have hrow : ∀ q, (Value.slice A n c).ownBlock = some q → Bx ≤ q := fun q hq => (H8.out.1.lt q hq).1
            have HF := Lib.hid (show w9.ownsRow Bx 9 1 (.slice A9 (xs ++ [t]).length c9) (xs ++ [t]).length ((xs ++ [t]).map bst) ∧ Below w1.heap.size w1 w9 ∧ MapOf bst okB w9 M (frL F) ∧ Bx ≤ w9.heap.size from ⟨by
                rw [← hlen, List.map_append]
                exact H9.out.1, H8.out.2.2.1.grown H9.out.2 H8.out.2.2.1.size (fun q hq => by have := hrow q hq; have := HMB.out.2.1; omega), H8.out.2.2.2.1.grown H9.out.2 (fun e => by have := hrow M e.symm; have := HMB.out.1; omega), Nat.le_trans H8.out.2.2.2.2 H9.out.2.size⟩)
            have HL := Lib.hid hlen
            clear hlen hrow
            go_roundg j
            case measure => exact HK2.out.2
            case rel => exact ⟨t, xs ++ [t], A9, c9, by rw [HL.out], by rw [HET.out], HF.out, HK2.out.1⟩
      · rw [frL_none (fun h => hbO (hkeys.1 h)), HS.out.2.1] at lk
        simp only [Option.getD_none, Option.isSome_none, if_true] at lk
        have HbO := Lib.hid hbO
        clear hkeys hbO
        go_wp2_with (fail)
        go_ret2
        exact ⟨below_next HBW.out B1.out, .inr ⟨HbO.out, rfl⟩⟩
    · obtain ⟨gq, oq, cq', e⟩ := HR.out.qu.block (by simp)
      injection e with e1 _ e3
      subst e1
      clear e3
      have hsn : s ∈ nmA := HP.out.wf.on s (HP.out.qk s (List.mem_cons_self ..))
      obtain ⟨S, hS0⟩ : ∃ S : ByteArray, S = ⟨s.toArray⟩ := ⟨_, rfl⟩
      have es : bst s = .string S := by rw [hS0]
      have c0 : wr.cell? ⟨gq, oq, none⟩ = some (.string S) := by rw [hS0]; exact HR.out.qu.cells 0 _ rfl
      have grw := HG.out.below HR.out.be
      obtain ⟨u1, u2⟩ := useOf_at (ls := usesA fs z) hsn hui.out.1
      obtain ⟨bk, hbk⟩ : ∃ bk, bs[nmA.idxOf s]? = some bk := ⟨_, List.getElem?_eq_getElem (by rw [grw.lb]; exact (List.getElem?_eq_some_iff.1 u1).1)⟩
      obtain ⟨m, hm⟩ : ∃ m, m = q'.length := ⟨_, rfl⟩
      obtain ⟨u, hu⟩ : ∃ u, u = srt (useOf nmA (usesA fs z) s) := ⟨_, rfl⟩
      obtain ⟨mu, hmu⟩ : ∃ k, k = (useOf nmA (usesA fs z) s).length := ⟨_, rfl⟩
      have hul : mu ≤ 10 := by rw [hmu]; exact hui.out.len s
      have hus : ∀ t, t ∈ u ↔ t ∈ useOf nmA (usesA fs z) s := fun t => by rw [hu]; exact List.mem_mergeSort
      have hulen : u.length = mu := by rw [hu, hmu, List.length_mergeSort]
      have mk := fun (Y : World) (hY : Below wr.heap.size wr Y) => (show Y.cell? ⟨G, 0, none⟩ = some (.map (some U)) ∧ Y.cell? ⟨gq, oq, none⟩ = some (.string S) ∧ (Instr.lookup 72 (.map (some U)) (.string S) false).run Try.prog Y = .ok (.map (some bk)) Y from
        ⟨(grw.g.below hY grw.g.lt).cell 0, (hY.cell (p := ⟨gq, oq, none⟩) (lt_of_cell c0)).trans c0, by
          have h1 := (grw.below hY).get u1 hbk false Y rfl
          simp only [Bool.false_eq_true, if_false] at h1
          rw [es] at h1
          exact h1⟩)
      have bdr : Below wr.heap.size wr wr.drew := (Below.refl _ _).drew
      have hS := mk wr.drew bdr
      have MKK := Lib.hid mk
      have SO := Lib.hid (sorted_any bk (useOf nmA (usesA fs z) s) wr.drew ((grw.below bdr).s _ bk _ hbk u2) (by omega))
      have BD := Lib.hid bdr
      have HM2 := Lib.hid (And.intro hm (And.intro hu (And.intro hmu hulen)))
      have HUS := Lib.hid hus
      have HQ := Lib.hid (And.intro hg hq)
      have HES := Lib.hid (And.intro es hsn)
      have HF10 := Lib.hid hF10
      rw [show (s :: q').length = m + 1 from by rw [hm]; rfl]
      rw [← hmu, ← hu] at SO
      clear hm hmu hu hus hulen mk bdr grw u1 u2 hbk hsn hS0 es c0 hg hq hF10
      go_wp2_with (fail)
      refine wp_region_g (S := fun Y => Y.cell? ⟨G, 0, none⟩ = some (.map (some U)) ∧ Y.cell? ⟨gq, oq, none⟩ = some (.string S) ∧ (Instr.lookup 72 (.map (some U)) (.string S) false).run Try.prog Y = .ok (.map (some bk)) Y) (m := 11) (by kernel_rfl) ?_
      repeat (first | (refine wpAnyG_take (i := 0) (v := .pointer (some ⟨G, 0, none⟩)) rfl ?_ ?_ ?_ (fun _ _ _ h => h) (Or.inl ⟨by rfl, ?_⟩) hS ?_; (· decide +kernel); (· decide +kernel); (· decide +kernel); (· (intro w' hS'; (try dsimp only at hS'); obtain ⟨hS1, hS2, hS3⟩ := hS'; go_simp))) | (refine wpAnyG_take (i := 1) (v := .pointer (some ⟨G, 0, none⟩)) rfl ?_ ?_ ?_ (fun _ _ _ h => h) (Or.inl ⟨by rfl, ?_⟩) hS ?_; (· decide +kernel); (· decide +kernel); (· decide +kernel); (· (intro w' hS'; (try dsimp only at hS'); obtain ⟨hS1, hS2, hS3⟩ := hS'; go_simp))) | (refine wpAnyG_take (i := 2) (v := .pointer (some ⟨G, 0, none⟩)) rfl ?_ ?_ ?_ (fun _ _ _ h => h) (Or.inl ⟨by rfl, ?_⟩) hS ?_; (· decide +kernel); (· decide +kernel); (· decide +kernel); (· (intro w' hS'; (try dsimp only at hS'); obtain ⟨hS1, hS2, hS3⟩ := hS'; go_simp))) | (refine wpAnyG_take (i := 3) (v := .map (some U)) rfl ?_ ?_ ?_ (fun _ _ _ h => h) (Or.inl ⟨by rfl, ?_⟩) hS ?_; (· decide +kernel); (· decide +kernel); (· decide +kernel); (· (intro w' hS'; (try dsimp only at hS'); obtain ⟨hS1, hS2, hS3⟩ := hS'; go_simp))) | (refine wpAnyG_take (i := 4) (v := .slice (some ⟨gq, oq, none⟩) (m + 1) cq) rfl ?_ ?_ ?_ (fun _ _ _ h => h) (Or.inl ⟨by rfl, ?_⟩) hS ?_; (· decide +kernel); (· decide +kernel); (· decide +kernel); (· (intro w' hS'; (try dsimp only at hS'); obtain ⟨hS1, hS2, hS3⟩ := hS'; go_simp))) | (refine wpAnyG_take (i := 5) (v := .pointer (some ⟨gq, oq, none⟩)) rfl ?_ ?_ ?_ (fun _ _ _ h => h) (Or.inl ⟨by rfl, ?_⟩) hS ?_; (· decide +kernel); (· decide +kernel); (· decide +kernel); (· (intro w' hS'; (try dsimp only at hS'); obtain ⟨hS1, hS2, hS3⟩ := hS'; go_simp))) | (refine wpAnyG_take (i := 6) (v := .string S) rfl ?_ ?_ ?_ (fun _ _ _ h => h) (Or.inl ⟨by rfl, ?_⟩) hS ?_; (· decide +kernel); (· decide +kernel); (· decide +kernel); (· (intro w' hS'; (try dsimp only at hS'); obtain ⟨hS1, hS2, hS3⟩ := hS'; go_simp))) | (refine wpAnyG_take (i := 7) (v := .map (some bk)) rfl ?_ ?_ ?_ (fun _ _ _ h => h) (Or.inl ⟨by rfl, ?_⟩) hS ?_; (· decide +kernel); (· decide +kernel); (· decide +kernel); (· (intro w' hS'; (try dsimp only at hS'); obtain ⟨hS1, hS2, hS3⟩ := hS'; go_simp))) | (refine wpAnyG_take (i := 10) (v := .int .i64 0) rfl ?_ ?_ ?_ (fun _ _ _ h => h) (Or.inl ⟨by rfl, ?_⟩) hS ?_; (· decide +kernel); (· decide +kernel); (· decide +kernel); (· (intro w' hS'; (try dsimp only at hS'); obtain ⟨hS1, hS2, hS3⟩ := hS'; go_simp))))
      refine wpAnyG_ready (rs := [8]) (by decide +kernel) (by simp) ?_
      refine AllReadyG.cons rfl (fun K hK => ?_) AllReadyG.nil
      go_simp
      refine SO.out.mono ?_
      rintro e w6 ⟨A9, k9, rfl, _, _, hr9, hb9⟩
      have b6 := below_next hb9 BD.out
      replace hS := MKK.out w6 b6
      have H6 := Lib.hid (And.intro hr9 b6)
      clear hr9 hb9 b6
      try dsimp only
      refine hK _ _ (fun _ => hS) ?_
      clear hK K
      refine wpAnyG_ready (rs := [9]) (by decide +kernel) (by simp) ?_
      refine AllReadyG.cons rfl (fun K hK => ?_) AllReadyG.nil
      go_simp
      refine hK _ _ (fun _ => hS) ?_
      clear hK K
      refine wpAnyG_done (by decide +kernel) ?_ _
      clear hS
      have WA6 := Lib.hid (show WayAt w1 w6 M (.slice (some ⟨gq, oq, none⟩) (m + 1) cq) (s :: q') F from by
        have h1 := HR.out.below H6.out.2
        rw [show (s :: q').length = m + 1 from by rw [HM2.out.1]; rfl] at h1
        exact h1)
      obtain ⟨Bq, hBq⟩ : ∃ n, n = wr.heap.size := ⟨_, rfl⟩
      have HBq := Lib.hid (show M < Bq ∧ w1.heap.size ≤ Bq ∧ Bq ≤ w6.heap.size ∧ (∀ b, (Value.slice (some ⟨gq, oq, none⟩) (m + 1) cq).ownBlock = some b → b < Bq) from by
        rw [hBq]
        exact ⟨MapOf.lt HR.out.mp, HR.out.be.size, H6.out.2.size, fun b hb => HR.out.qu.lt b (by rw [← hb]; rfl)⟩)
      have HRD := Lib.hid (show Reads w6 (fun b => Bq ≤ b ∧ b < w6.heap.size) 1 A9 mu (u.map bst) from by
        rw [hBq]
        exact H6.out.1.imp (by omega) fun b hb hl => ⟨hb, hl⟩)
      clear hBq SO MKK BD H6 HR
      go_wp2_with (fail)
      go_loopw [11, 51] (fun v11 i wr2 => ∃ (k : Nat) (F2 : List (Bs × Bs)) (q2 : List Bs) (A : Option Addr) (c : Nat), k ≤ mu ∧ v11 = .slice A (q2.length + 1) c ∧ i = .int .i64 (k : Nat) ∧ q2.length + 1 + 2 * (10 - F2.length) ≤ m + 1 + 2 * (10 - F.length) ∧ Hid (WayAt w1 wr2 M (.slice A (q2.length + 1) c) (s :: q2) F2) ∧ Hid (Wi nmA (usesA fs z) a F2 s q2 u k) ∧ Hid (Reads wr2 (fun b => Bq ≤ b ∧ b < w6.heap.size) 1 A9 mu (u.map bst) ∧ (∀ b, (Value.slice A (q2.length + 1) c).ownBlock = some b → b < Bq ∨ w6.heap.size ≤ b) ∧ w6.heap.size ≤ wr2.heap.size)) (fun _ i _ => mu - (intOf i).toNat)
      case atStart => exact ⟨0, F, q', some ⟨gq, oq, none⟩, cq, Nat.zero_le _, by rw [HM2.out.1], rfl, by rw [HM2.out.1]; exact Nat.le_refl _, by rw [← HM2.out.1]; exact WA6.out, Wi.start HP.out, HRD.out, fun b hb => .inl (HBq.out.2.2.2 b (by rw [← hb]; rfl)), Nat.le_refl _⟩
      case round =>
        obtain ⟨k, F2, q2, A, c, hk, rfl, rfl, hbd, HW, HI, HT⟩ := hrel
        clear HRD WA6
        obtain ⟨g2, o2, c2', e⟩ := HW.out.qu.block (by simp)
        injection e with e1 _ e3
        subst e1
        clear e3
        have c0 : wr.cell? ⟨g2, o2, none⟩ = some (.string S) := by rw [← HES.out.1]; exact HW.out.qu.cells 0 _ rfl
        have l0 := lt_of_cell c0
        have hF2 : F2.length ≤ 10 := HI.out.w.wf.len
        obtain ⟨m2, hm2⟩ : ∃ n, n = q2.length := ⟨_, rfl⟩
        have HM3 := Lib.hid hm2
        have HBD := Lib.hid (And.intro hbd hF2)
        rw [← hm2]
        by_cases hlt : k < mu
        · obtain ⟨b9, o9, x9, rfl, hD9, hx9, px⟩ := HT.out.1.at_ hlt
          obtain ⟨t, ht⟩ : ∃ t, u[k]? = some t := ⟨_, List.getElem?_eq_getElem (by rw [HM2.out.2.2.2]; exact hlt)⟩
          obtain ⟨T, hT⟩ : ∃ S : ByteArray, S = ⟨t.toArray⟩ := ⟨_, rfl⟩
          have et : bst t = .string T := by rw [hT]
          have hx2 : x9 = .string T := by
            rw [List.getElem?_map, ht] at hx9
            rw [← et]
            injection hx9 with h
            exact h.symm
          subst hx2
          have lpx := lt_of_cell px
          have htn : t ∈ nmA := hui.out.mem ((HUS.out t).1 (List.mem_of_getElem? ht))
          have hok : okB t := HG.out.okn htn
          by_cases hmt : t ∈ F2.map (·.1)
          · obtain ⟨x, hx⟩ := frL_some hmt
            have lk := HW.out.mp.lookup enc_B Try.underlying71 zero_str (a := t) hok true
            rw [hx, et] at lk
            simp only [Option.getD_some, Option.isSome_some, if_true] at lk
            have HI2 := Lib.hid (HI.out.old ht hmt)
            clear hx9 ht hT et htn hok hmt hx hD9 hm2 hbd hF2
            go_wp2_with (fail)
            exact ⟨⟨k + 1, F2, q2, some ⟨g2, o2, none⟩, c, by omega, by rw [HM3.out], by go_num, HBD.out.1, HW.out, HI2.out, HT.out⟩, by simp [intOf]; omega⟩
          · have lk := HW.out.mp.lookup enc_B Try.underlying71 zero_str (a := t) hok true
            rw [frL_none hmt, et] at lk
            simp only [Option.getD_none, Option.isSome_none, if_true] at lk
            obtain ⟨w7, up, m7, g7⟩ := MapOf.update enc_B HW.out.mp Try.underlying71 hok (bst s)
            rw [frL_put hmt] at m7
            rw [et, HES.out.1] at up
            have HI2 := Lib.hid (HI.out.new hui.out HUS.out ht hmt)
            have hF3 : F2.length + 1 ≤ 10 := by have h9 := HI2.out.w.wf.len; rw [List.length_append, List.length_singleton] at h9; exact h9
            have sg7 := HW.out.qu.keep (w' := w7) (fun b hb => g7.block b (HW.out.qu.lt b hb) (fun e => (HW.out.qb b hb).2 (by injection e)))
            have rd7 := HT.out.1.keep (w' := w7) (fun b hb hl => g7.block b hl (fun e => by injection e with e; have := HBq.out.1; omega))
            have b7 : Below w1.heap.size w1 w7 := HW.out.be.grown g7 HW.out.be.size (fun q hq => by injection hq with hq; have := HM.out; omega)
            have b78 : Below w7.heap.size w7 (w7.alloc (.cells #[.string T] 9)) := (Below.refl _ _).alloc (Nat.le_refl _) _
            have r8 : Reads (w7.alloc (.cells #[.string T] 9)) Any 1 (some ⟨w7.heap.size, 0, none⟩) 1 ([t].map bst) := by
              have := Reads.new w7 [.string T] 1 1 9 Any trivial rfl
              rw [List.map_cons, List.map_nil, et]
              exact this
            have sg8 := sg7.keep (w' := w7.alloc (.cells #[.string T] 9)) (fun b hb => b78.block b (sg7.lt b hb))
            have l67 : w6.heap.size ≤ w7.heap.size := Nat.le_trans HT.out.2.2 g7.size
            have sg8' : Seg (w7.alloc (.cells #[.string T] 9)) 9 1 (.slice (some ⟨g2, o2, none⟩) (m2 + 1) c) (m2 + 1) ((s :: q2).map bst) := by rw [hm2]; exact sg8
            have H8 := Lib.hid (And.intro sg8' (And.intro r8 (And.intro (m7.below b78) (And.intro (rd7.keep (Same.of_below b78 fun _ _ h => h)) (And.intro (b7.trans (b78.mono b7.size)) l67)))))
            have ml8 : M < w7.heap.size := MapOf.lt m7
            have HML := Lib.hid ml8
            have hq2 : m2 ≤ 100 := by have h1 := HQ.out.2; have h2 := HM2.out.1; have h3 := HF10.out; simp only [List.length_cons] at h1; omega
            clear hx9 ht hT et htn hok hmt hD9 m7 g7 sg7 rd7 b7 b78 r8 sg8 sg8' l67 ml8 hm2 hbd hF2
            go_wp2_with (at_builtin; refine app_strg (w7.alloc (.cells #[.string T] 9)) rfl (.tmp 68) (.tmp 70) rfl H8.out.1 rfl rfl H8.out.2.1 (strs_one _) (by omega) ?_; intro v9 w9 sg9 hg9 hat9; obtain ⟨A', c', rfl, _⟩ := sg9.form; have H9 := Lib.hid (And.intro sg9 (And.intro hg9 hat9)); clear sg9 hg9 hat9)
            obtain ⟨sg9, hg9, hat9⟩ := H9.out
            have hlen : (q2 ++ [t]).length + 1 = m2 + 1 + 1 := by rw [List.length_append, List.length_singleton, HM3.out]
            have qb8 : ∀ b, (Value.slice (some ⟨g2, o2, none⟩) (m2 + 1) c).ownBlock = some b → (w1.heap.size ≤ b ∧ b ≠ M) ∧ (b < Bq ∨ w6.heap.size ≤ b) := fun b hb => ⟨HW.out.qb b (by rw [← hb]; rfl), HT.out.2.1 b (by rw [← hb]; rfl)⟩
            have hw8s : w7.heap.size ≤ (w7.alloc (.cells #[.string T] 9)).heap.size := ((Below.refl w7.heap.size w7).alloc (Nat.le_refl _) _).size
            have HA9 := Lib.hid (show WayAt w1 w9 M (.slice A' ((q2 ++ [t]).length + 1) c') (s :: (q2 ++ [t])) (F2 ++ [(t, s)]) from ⟨by
                rw [hlen, show (s :: (q2 ++ [t])).length = m2 + 1 + 1 by rw [← hlen]; rfl, show (s :: (q2 ++ [t])).map bst = (s :: q2).map bst ++ [t].map bst by simp]
                exact sg9, fun b hb => by
                rcases hat9 b (by rw [← hb, hlen]) with h | h
                · exact (qb8 b h).1
                · have h1 := HML.out
                  have h2 := H8.out.2.2.2.2.1.size
                  omega, H8.out.2.2.1.grown hg9 (fun e => (qb8 M e.symm).1.2 rfl), H8.out.2.2.2.2.1.grown hg9 H8.out.2.2.2.2.1.size (fun b hb => (qb8 b hb).1.1)⟩)
            have HT9 := Lib.hid (show Reads w9 (fun b => Bq ≤ b ∧ b < w6.heap.size) 1 (some ⟨b9, o9, none⟩) mu (u.map bst) ∧ (∀ b, (Value.slice A' ((q2 ++ [t]).length + 1) c').ownBlock = some b → b < Bq ∨ w6.heap.size ≤ b) ∧ w6.heap.size ≤ w9.heap.size from ⟨H8.out.2.2.2.1.keep (fun b hb hl => hg9.block b hl (fun e => by have := (qb8 b e.symm).2; omega)), fun b hb => by
                rcases hat9 b (by rw [← hb, hlen]) with h | h
                · exact (qb8 b h).2
                · have := H8.out.2.2.2.2.2
                  exact .inr (by omega), by have := H8.out.2.2.2.2.2; have := hg9.size; omega⟩)
            have HB9 := Lib.hid (show (q2 ++ [t]).length + 1 + 2 * (10 - (F2 ++ [(t, s)]).length) ≤ m + 1 + 2 * (10 - F.length) from by
              rw [hlen, List.length_append, List.length_singleton]
              have := HBD.out
              have := HM3.out
              omega)
            have HL9 := Lib.hid hlen
            clear sg9 hg9 hat9 hlen qb8 hw8s hF3 hq2
            exact ⟨⟨k + 1, F2 ++ [(t, s)], q2 ++ [t], A', c', by omega, by rw [HL9.out], by go_num, HB9.out, HA9.out, HI2.out, HT9.out⟩, by simp [intOf]; omega⟩
        · obtain rfl : k = mu := by omega
          have sg0 : Seg wr 9 1 (.slice (some ⟨g2, o2, none⟩) (m2 + 1) c) (m2 + 1) ((s :: q2).map bst) := by rw [hm2]; exact HW.out.qu
          obtain ⟨sg, ow⟩ := Seg.tail1 (P := Try.prog) 32 Try.underlying32 (by kernel_rfl) sg0
          have HAT := Lib.hid (fun (A' : Option Addr) (c' : Nat) (e : Value.slice A' m2 c' = .slice (if c = 1 then some ⟨g2, o2, none⟩ else some ⟨g2, o2 + 1, none⟩) m2 (c - 1)) => (show WayAt w1 wr M (.slice A' q2.length c') q2 F2 from ⟨by rw [← HM3.out, e]; exact sg, fun b hb => HW.out.qb b (by rw [← HM3.out, e, ow] at hb; exact hb), HW.out.mp, HW.out.be⟩))
          have HPN := Lib.hid (HI.out.done HUS.out (Nat.le_of_eq HM2.out.2.2.2))
          clear sg ow sg0 hm2 hbd hF2
          go_wp2_with (fail)
          all_goals
            go_roundg (q2.length + 2 * (10 - F2.length))
            case measure =>
              have h1 := HQ.out.1
              have h2 := HM2.out.1
              have h3 := HBD.out.1
              simp only [List.length_cons] at h1
              omega
            case rel =>
              have h1 := HQ.out.2
              have h2 := HM2.out.1
              have h3 := HBD.out.1
              simp only [List.length_cons] at h1
              exact ⟨q2, F2, _, _, by rw [HM3.out], rfl, by omega, HAT.out _ _ (by simp [*]), HPN.out⟩
end Go.Proofs.Ytaealapgebbnlaa
