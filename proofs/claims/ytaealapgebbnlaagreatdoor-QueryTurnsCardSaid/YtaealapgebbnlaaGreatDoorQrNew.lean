/- Contract of query.newGraph at the laws' module. (Printed by qrnew.py.) -/
import Derived.Test.YtaealapgebbnlaaGreatDoorQrGr2
import Derived.BigQuiet
import Derived.Deep.DeepCutAuto
set_option linter.unusedVariables false
namespace Go.Proofs.YtaealapgebbnlaaGreatDoor
open Go.RowKit Go.Mem Go.Md Go.Maps
theorem ens_at {i : Nat} (hi : i < 11) (j : Nat) (hj : j < 4) : (ensC allE)[i * 4 + j]? = (encE (allE[i]?.getD default))[j]? := by
  have h1 : (allE.map encE)[i]? = some (encE (allE[i]?.getD default)) := by
    rw [List.getElem?_map, List.getElem?_eq_getElem (show i < allE.length from hi)]
    rfl
  exact flatten_at (fun c hc => by obtain ⟨e, _, rfl⟩ := List.mem_map.1 hc; rfl) h1 j hj
theorem info_str : (Tryz.prog.info? 9).map (fun i => (i.zero, i.size, i.bytes)) = some (some (.string ⟨#[]⟩), 1, 16) := by kernel_rfl
theorem step_app_str (w : World) {ops : Array Oper} {o : Oper} {a : Act} {K : Act → World → Prop} {Q : Exit → Act → World → Prop} {E : Prop} (hgd : o.guard = none) (s x : Operand)
    (ho : o.op = .call { callee := .builtin .append, args := #[s, x], argTypes := #[32, 32] })
    {base : Nat} {v : Value} {n : Nat} {xs : List Value} (hown : w.ownsRow base 9 1 v n xs) (hs : a.eval s = v)
    {D : Nat → Prop} {A : Option Addr} {m : Nat} {news : List Value} (hr : Reads w D 1 A m news) {c : Nat} (hx : a.eval x = .slice A m c) (h1 : ∀ u ∈ news, u.oneCell' = true)
    (h63 : n + m ≤ 109951162) (hbase : base ≤ w.heap.size)
    (h : ∀ v' w', w'.ownsRow base 9 1 v' (n + m) (xs ++ news) → w.grownBy w' v.ownBlock → (v'.ownBlock = v.ownBlock ∨ v'.ownBlock = some w.heap.size) → K (a.put o.dst v') w') :
    if Region.wanted o (yielded ops a.tmps) = true then Oper.wp Tryz.prog o a w K Q else E := by
  obtain ⟨i0, hi0, hz0, hz1, hz2⟩ := info_parts info_str
  exact step_append_any w hgd s x _ ho base _ i0 _ 1 16 Tryz.underlying32 hi0 hz0 hz1 hz2 rfl (by omega) v n xs hs hown D A m c news hx hr h1 (by simp only [maxLen]; omega) (by omega) hbase h
set_option maxRecDepth 100000 in
set_option maxHeartbeats 8000000 in
theorem newGraph_any (cs : List Value) (fs : List Md.Fn) (z : Bd) (w : World) (hm : ModAt w Any cs fs z) (hbd : ∀ f ∈ fs, BdOk f.2) (hz : BdOk z) :
    Calls Tryz.prog 13 #[.agg cs.toArray] w fun e w' => ∃ G U I A c bs, e = .returned (.pointer (some ⟨G, 0, none⟩)) ∧ Gr w' G U I (.slice A 1 c) nmA imA bs (usesA fs z) ∧ 1 ≤ c ∧ c ≤ maxLen ∧ Reads w' Any 1 A 1 [bst [90]] ∧ Below w.heap.size w w' := by
  have EN := Lib.hid (fun (V : World) (hV : Below w.heap.size w V) => entries_any cs fs z V (hm.keep (Same.any hV)))
  obtain ⟨⟨AD, cD, AM, cM, AF, cF, AZ, cZ, vss, vs, rfl, hcD, hcM, hcF, hcZ, r1, r2, r3, a3, r4, a4⟩, he⟩ := hm
  have HMD := Lib.hid (And.intro (And.intro r1 r2) (And.intro (And.intro r3 a3) (And.intro r4 a4)))
  have HC := Lib.hid (And.intro hcD (And.intro hcM (And.intro hcF hcZ)))
  have HE := Lib.hid he
  have HBD := Lib.hid (And.intro hbd hz)
  obtain ⟨W, hW⟩ : ∃ W, W = (((w.alloc (.cells #[bst [109], .int .i64 1, .slice none 0 0, .slice AD 1 cD, .slice none 0 0, .slice none 0 0, .slice AF 8 cF, .slice AZ 1 cZ] 30)).alloc (.map #[] 0)).alloc (.map #[] 0)).alloc (.cells #[.map (some (w.heap.size + 1)), .map (some (w.heap.size + 1 + 1)), .slice none 0 0] 67) := ⟨_, rfl⟩
  have b1 : Below w.heap.size w (w.alloc (.cells #[bst [109], .int .i64 1, .slice none 0 0, .slice AD 1 cD, .slice none 0 0, .slice none 0 0, .slice AF 8 cF, .slice AZ 1 cZ] 30)) := (Below.refl _ _).alloc (Nat.le_refl _) _
  have b2 := b1.alloc b1.size (.map #[] 0)
  have b3 := b2.alloc b2.size (.map #[] 0)
  have bW : Below w.heap.size w W := by
    rw [hW]
    exact b3.alloc b3.size _
  have fP : Blk W w.heap.size 30 [bst [109], .int .i64 1, .slice none 0 0, .slice AD 1 cD, .slice none 0 0, .slice none 0 0, .slice AF 8 cF, .slice AZ 1 cZ] := by
    rw [hW]
    exact (((Blk.new w _ _).alloc _).alloc _).alloc _
  have hGr : Gr W (w.heap.size + 1 + 1 + 1) (w.heap.size + 1) (w.heap.size + 1 + 1) (.slice none 0 0) [] [] [] [] := by
    rw [hW]
    have u := ((MapOf.new (enc := bst) (ok := okB) (w.alloc (.cells #[bst [109], .int .i64 1, .slice none 0 0, .slice AD 1 cD, .slice none 0 0, .slice none 0 0, .slice AF 8 cF, .slice AZ 1 cZ] 30))).alloc (.map #[] 0)).alloc (.cells #[.map (some (w.heap.size + 1)), .map (some (w.heap.size + 1 + 1)), .slice none 0 0] 67)
    have v := (MapOf.new (enc := bst) (ok := okB) ((w.alloc (.cells #[bst [109], .int .i64 1, .slice none 0 0, .slice AD 1 cD, .slice none 0 0, .slice none 0 0, .slice AF 8 cF, .slice AZ 1 cZ] 30)).alloc (.map #[] 0))).alloc (.cells #[.map (some (w.heap.size + 1)), .map (some (w.heap.size + 1 + 1)), .slice none 0 0] 67)
    have g := Blk.new (((w.alloc (.cells #[bst [109], .int .i64 1, .slice none 0 0, .slice AD 1 cD, .slice none 0 0, .slice none 0 0, .slice AF 8 cF, .slice AZ 1 cZ] 30)).alloc (.map #[] 0)).alloc (.map #[] 0)) 67 [.map (some (w.heap.size + 1)), .map (some (w.heap.size + 1 + 1)), .slice none 0 0]
    simp only [World.size_alloc] at u v g
    exact ⟨g, u, v, rfl, rfl, List.nodup_nil, fun k b l h => by simp at h, by simp; omega⟩
  have sW : W.heap.size = w.heap.size + 1 + 1 + 1 + 1 := by rw [hW]; simp
  have HW := Lib.hid (And.intro bW (And.intro fP (And.intro hGr sW)))
  have hWW := Lib.hid hW
  clear hcD hcM hcF hcZ r1 r2 r3 a3 r4 a4 he hbd hz hW b1 b2 b3 bW fP hGr sW
  have hmm := @run_makeMap Tryz.prog
  go_enter Tryz.func13, Tryz.ntmps13
  go_wp2_with (fail)
  rw [← hWW.out]
  refine (EN.out W HW.out.1).mono ?_
  rintro e W1 ⟨A, c, rfl, hnc, hcm, hr, hb1⟩
  obtain ⟨G, hG⟩ : ∃ G, G = w.heap.size + 1 + 1 + 1 := ⟨_, rfl⟩
  obtain ⟨I, hI⟩ : ∃ I, I = w.heap.size + 1 + 1 := ⟨_, rfl⟩
  obtain ⟨U, hU⟩ : ∃ U, U = w.heap.size + 1 := ⟨_, rfl⟩
  obtain ⟨B, hB⟩ : ∃ B, B = w.heap.size := ⟨_, rfl⟩
  have HB1 := Lib.hid hb1
  have HR := Lib.hid (And.intro hr (And.intro hnc hcm))
  have HS := Lib.hid (And.intro hG (And.intro hI (And.intro hU hB)))
  have h0 : NgInv W1 W1 G U I (.slice none 0 0) [] [] [] := by
    refine ⟨[], ?_, by simp, GrownIn.refl _ _⟩
    rw [hG, hI, hU]
    exact HW.out.2.2.1.below hb1
  have H0 := Lib.hid h0
  have fP1 : Blk W1 B 30 [bst [109], .int .i64 1, .slice none 0 0, .slice AD 1 cD, .slice none 0 0, .slice none 0 0, .slice AF 8 cF, .slice AZ 1 cZ] := by
    rw [hB]
    exact HW.out.2.1.below hb1 HW.out.2.1.lt
  have HP := Lib.hid fP1
  rw [← hG, ← hI, ← hU, ← hB]
  clear hG hI hU hB hr hnc hcm h0 hb1 fP1 EN hWW
  go_wp2_with (fail)
  go_loopw [31] (fun v wr => ∃ i : Nat, i ≤ 11 ∧ v = .int .i64 (i : Nat) ∧ Hid (NgInv W1 wr G U I (.slice none 0 0) (nmE i) (imE i) (List.replicate (nmE i).length []))) (fun v _ => 11 - (intOf v).toNat)
  case atStart => exact ⟨0, Nat.zero_le _, rfl, H0.out⟩
  case round =>
    obtain ⟨i, hi, rfl, HI⟩ := hrel
    by_cases hlt : i < 11
    · clear H0 HP
      obtain ⟨bs, gr, hbs, gw⟩ := HI.out
      obtain ⟨e, he⟩ : ∃ e : En, e = allE[i]?.getD default := ⟨_, rfl⟩
      have rd : Reads wr (fun b => W.heap.size ≤ b) 4 A 11 (ensC allE) := HR.out.1.keep (Same.of_in gw (fun b hb _ h => by obtain ⟨h1, h2, h3, h4⟩ := HS.out; have := HW.out.2.2.2; omega))
      obtain ⟨bx, ox, rfl, _, hc⟩ := rd.2 (by omega)
      have ce : ∀ j, j < 4 → wr.cell? ⟨bx, ox + (i * 4 + j), none⟩ = (encE e)[j]? := fun j hj => by
        have h1 := ens_at hlt j hj
        rw [← he] at h1
        have h2 : j < (encE e).length := hj
        rw [List.getElem?_eq_getElem h2] at h1 ⊢
        exact hc _ _ h1
      obtain ⟨N, hN⟩ : ∃ N : ByteArray, N = ⟨#[e.ch]⟩ := ⟨_, rfl⟩
      obtain ⟨LN, hLN⟩ : ∃ N : ByteArray, N = ⟨e.line.toArray⟩ := ⟨_, rfl⟩
      obtain ⟨so, hso⟩ : ∃ so : Int, so = (e.sort.val : Nat) := ⟨_, rfl⟩
      have f0 : wr.cell? ⟨bx, ox + i * 4, none⟩ = some (.string N) := by rw [hN]; exact ce 0 (by omega)
      have f1 : wr.cell? ⟨bx, ox + i * 4 + 1, none⟩ = some (.int .i64 so) := by rw [hso]; exact ce 1 (by omega)
      have f3 : wr.cell? ⟨bx, ox + i * 4 + 3, none⟩ = some (.string LN) := by rw [hLN]; exact ce 3 (by omega)
      have f2 : wr.cell? ⟨bx, ox + i * 4 + 2, none⟩ = some (bst e.in_) := ce 2 (by omega)
      have lf := lt_of_cell f0
      obtain ⟨E, hE⟩ : ∃ E, E = wr.heap.size := ⟨_, rfl⟩
      have HGR := Lib.hid (And.intro gr (And.intro hbs gw))
      have hcase := allE_case i hlt
      rw [← he] at hcase
      clear hc rd ce gr hbs gw hLN hso
      rcases hcase with ⟨ein, hi1, hnin, hnx⟩ | rfl
      · rw [ein] at f2
        obtain ⟨V, hV⟩ : ∃ V, V = World.drew (wr.alloc (.cells #[.string N, .int .i64 so, .string ⟨#[]⟩, .string LN] 78)) := ⟨_, rfl⟩
        have bV : Below wr.heap.size wr V := by rw [hV]; exact ((Below.refl _ _).alloc (Nat.le_refl _) _).drew
        have fE : Blk V E 78 [.string N, .int .i64 so, .string ⟨#[]⟩, .string LN] := by rw [hV, hE]; exact (Blk.new wr _ _).drew
        have grV := HGR.out.1.below bV
        obtain ⟨w', up, gr', gw'⟩ := grV.add hnin (show okB [e.ch] from by unfold okB; simp) V rfl
        have hS : V.cell? ⟨G, 0, none⟩ = some (.map (some U)) ∧ V.cell? ⟨E, 0, none⟩ = some (.string N) := ⟨grV.g.cell 0, fE.cell 0⟩
        have hS2 : (V.alloc (.map #[] 0)).cell? ⟨G, 0, none⟩ = some (.map (some U)) ∧ (V.alloc (.map #[] 0)).cell? ⟨E, 0, none⟩ = some (.string N) := ⟨(grV.g.alloc _).cell 0, (fE.alloc _).cell 0⟩
        have FN := Lib.hid (And.intro gr' (And.intro gw' (And.intro bV hnx)))
        rw [show bst [e.ch] = .string N from by rw [hN]] at up
        have HV := Lib.hid hV
        have HEE := Lib.hid hE
        have HNN := Lib.hid hN
        have HI1 := Lib.hid hi1
        have HEI := Lib.hid he
        clear hnx gr' gw' bV grV fE hV hnin ein hi1 hE hN he
        go_wp2_with (fail)
        refine wp_region_g (S := fun w' => w'.cell? ⟨G, 0, none⟩ = some (.map (some U)) ∧ w'.cell? ⟨E, 0, none⟩ = some (.string N)) (m := 7) (by kernel_rfl) ?_
        rw [← HV.out, ← HEE.out]
        repeat (first | (refine wpAnyG_take (i := 0) (v := .pointer (some ⟨G, 0, none⟩)) rfl ?_ ?_ ?_ (fun _ _ _ h => h) (Or.inl ⟨by rfl, ?_⟩) hS ?_; (· decide +kernel); (· decide +kernel); (· decide +kernel); (· (intro w' hS'; (try dsimp only at hS'); go_split_ands; go_simp))) | (refine wpAnyG_take (i := 1) (v := .pointer (some ⟨G, 0, none⟩)) rfl ?_ ?_ ?_ (fun _ _ _ h => h) (Or.inl ⟨by rfl, ?_⟩) hS ?_; (· decide +kernel); (· decide +kernel); (· decide +kernel); (· (intro w' hS'; (try dsimp only at hS'); go_split_ands; go_simp))) | (refine wpAnyG_take (i := 2) (v := .pointer (some ⟨G, 0, none⟩)) rfl ?_ ?_ ?_ (fun _ _ _ h => h) (Or.inl ⟨by rfl, ?_⟩) hS ?_; (· decide +kernel); (· decide +kernel); (· decide +kernel); (· (intro w' hS'; (try dsimp only at hS'); go_split_ands; go_simp))) | (refine wpAnyG_take (i := 3) (v := .map (some U)) rfl ?_ ?_ ?_ (fun _ _ _ h => h) (Or.inl ⟨by rfl, ?_⟩) hS ?_; (· decide +kernel); (· decide +kernel); (· decide +kernel); (· (intro w' hS'; (try dsimp only at hS'); go_split_ands; go_simp))) | (refine wpAnyG_take (i := 4) (v := .pointer (some ⟨E, 0, none⟩)) rfl ?_ ?_ ?_ (fun _ _ _ h => h) (Or.inl ⟨by rfl, ?_⟩) hS ?_; (· decide +kernel); (· decide +kernel); (· decide +kernel); (· (intro w' hS'; (try dsimp only at hS'); go_split_ands; go_simp))) | (refine wpAnyG_take (i := 5) (v := .string N) rfl ?_ ?_ ?_ (fun _ _ _ h => h) (Or.inl ⟨by rfl, ?_⟩) hS ?_; (· decide +kernel); (· decide +kernel); (· decide +kernel); (· (intro w' hS'; (try dsimp only at hS'); go_split_ands; go_simp))))
        refine wpAnyG_ready (rs := [6]) (by decide +kernel) (by simp) ?_
        refine AllReadyG.cons rfl (fun K hK => ?_) AllReadyG.nil
        go_simp
        refine hK _ _ (fun _ => hS2) ?_
        clear hK K
        refine wpAnyG_ready (rs := [7]) (by decide +kernel) (by simp) ?_
        refine AllReadyG.cons rfl (fun K hK => ?_) AllReadyG.nil
        go_simp
        refine hK _ _ (fun h => absurd h (by omega)) ?_
        clear hK K
        refine wpAnyG_done (by decide +kernel) ?_ _
        go_wp2_with (fail)
        refine ⟨⟨i + 1, by omega, by go_num, ?_⟩, by simp [intOf]; omega⟩
        obtain ⟨gr', gw', bV, hnx⟩ := FN.out
        refine ⟨bs ++ [V.heap.size], ?_, ?_, ?_⟩
        · rw [hnx, imE_next HI1.out, List.length_append]
          rw [← List.replicate_append_replicate] 
          exact gr'
        · intro b hb
          rcases List.mem_append.1 hb with hb | hb
          · exact HGR.out.2.1 b hb
          · simp at hb
            have h1 := HGR.out.2.2.size
            have h2 := bV.size
            omega
        · exact (HGR.out.2.2.trans (GrownIn.of_below (own := fun _ => False) bV) (fun _ h => h.elim)).trans gw' (fun b h => .inl (.inr (.inl h)))
      · obtain rfl : e = enK := he
        have f2' : wr.cell? ⟨bx, ox + 1 * 4 + 2, none⟩ = some (.string ⟨#[68]⟩) := f2
        obtain ⟨X, hX⟩ : ∃ X, X = wr.alloc (.cells #[.string N, .int .i64 so, .string ⟨#[68]⟩, .string LN] 78) := ⟨_, rfl⟩
        have bX : Below wr.heap.size wr X := by rw [hX]; exact ((Below.refl _ _).alloc (Nat.le_refl _) _)
        have fE : Blk X E 78 [.string N, .int .i64 so, .string ⟨#[68]⟩, .string LN] := by rw [hX, hE]; exact (Blk.new wr _ _)
        have grX := HGR.out.1.below bX
        have lk := grX.missIn (n := [75]) rfl (show okB [75] from by unfold okB; simp) X rfl
        have lk2 := grX.missIn (n := [75]) rfl (show okB [75] from by unfold okB; simp) X.drew rfl
        have g1 := grX.g.cell 1
        have e0 := fE.cell 0
        have e2 := fE.cell 2
        simp only [List.getElem?_cons_zero, List.getElem?_cons_succ] at g1 e0 e2
        have lg := lt_of_cell g1
        have le := lt_of_cell e0
        have HN := Lib.hid hN
        obtain ⟨w', up, gr', gw'⟩ := grX.addIn (n := [75]) (t := [68]) rfl (show okB [75] from by unfold okB; simp) X.drew.drew rfl
        rw [show bst [75] = .string N from by rw [hN]; rfl, show bst [68] = .string ⟨#[68]⟩ from rfl] at up
        have FN := Lib.hid (And.intro gr' gw')
        have BX := Lib.hid (show Below wr.heap.size wr X.drew.drew from bX.drew.drew)
        clear gr' gw'
        have HX := Lib.hid hX
        have HEE := Lib.hid hE
        rw [show bst [75] = .string N from by rw [hN]; rfl] at lk lk2
        clear hN hX hE f2 grX fE bX
        go_upto_region 7 with (fail)
        rw [← HX.out, ← HEE.out]
        refine wp_region_g (S := fun w' => w' = X.drew) (m := 12) (by kernel_rfl) ?_
        have hS : X.drew = X.drew := rfl
        repeat (first | (refine wpAnyG_take (i := 0) (v := .pointer (some ⟨G, 0, none⟩)) rfl ?_ ?_ ?_ (fun _ _ _ h => h) (Or.inl ⟨by rfl, ?_⟩) hS ?_; (· decide +kernel); (· decide +kernel); (· decide +kernel); (· (intro w' hS'; subst hS'; go_simp))) | (refine wpAnyG_take (i := 1) (v := .pointer (some ⟨G, 0, none⟩)) rfl ?_ ?_ ?_ (fun _ _ _ h => h) (Or.inl ⟨by rfl, ?_⟩) hS ?_; (· decide +kernel); (· decide +kernel); (· decide +kernel); (· (intro w' hS'; subst hS'; go_simp))) | (refine wpAnyG_take (i := 2) (v := .pointer (some ⟨G, 1, none⟩)) rfl ?_ ?_ ?_ (fun _ _ _ h => h) (Or.inl ⟨by rfl, ?_⟩) hS ?_; (· decide +kernel); (· decide +kernel); (· decide +kernel); (· (intro w' hS'; subst hS'; go_simp))) | (refine wpAnyG_take (i := 3) (v := .map (some I)) rfl ?_ ?_ ?_ (fun _ _ _ h => h) (Or.inl ⟨by rfl, ?_⟩) hS ?_; (· decide +kernel); (· decide +kernel); (· decide +kernel); (· (intro w' hS'; subst hS'; go_simp))) | (refine wpAnyG_take (i := 4) (v := .pointer (some ⟨E, 0, none⟩)) rfl ?_ ?_ ?_ (fun _ _ _ h => h) (Or.inl ⟨by rfl, ?_⟩) hS ?_; (· decide +kernel); (· decide +kernel); (· decide +kernel); (· (intro w' hS'; subst hS'; go_simp))) | (refine wpAnyG_take (i := 5) (v := .string N) rfl ?_ ?_ ?_ (fun _ _ _ h => h) (Or.inl ⟨by rfl, ?_⟩) hS ?_; (· decide +kernel); (· decide +kernel); (· decide +kernel); (· (intro w' hS'; subst hS'; go_simp))) | (refine wpAnyG_take (i := 6) (v := .tuple #[.string ⟨#[]⟩, .bool false]) rfl ?_ ?_ ?_ (fun _ _ _ h => h) (Or.inl ⟨by rfl, ?_⟩) hS ?_; (· decide +kernel); (· decide +kernel); (· decide +kernel); (· (intro w' hS'; subst hS'; go_simp))) | (refine wpAnyG_take (i := 7) (v := .tuple #[.string ⟨#[]⟩, .bool false]) rfl ?_ ?_ ?_ (fun _ _ _ h => h) (Or.inl ⟨by rfl, ?_⟩) hS ?_; (· decide +kernel); (· decide +kernel); (· decide +kernel); (· (intro w' hS'; subst hS'; go_simp))) | (refine wpAnyG_take (i := 8) (v := .string ⟨#[]⟩) rfl ?_ ?_ ?_ (fun _ _ _ h => h) (Or.inl ⟨by rfl, ?_⟩) hS ?_; (· decide +kernel); (· decide +kernel); (· decide +kernel); (· (intro w' hS'; subst hS'; go_simp))) | (refine wpAnyG_take (i := 9) (v := .bool false) rfl ?_ ?_ ?_ (fun _ _ _ h => h) (Or.inl ⟨by rfl, ?_⟩) hS ?_; (· decide +kernel); (· decide +kernel); (· decide +kernel); (· (intro w' hS'; subst hS'; go_simp))) | (refine wpAnyG_take (i := 10) (v := .string ⟨#[]⟩) rfl ?_ ?_ ?_ (fun _ _ _ h => h) (Or.inl ⟨by rfl, ?_⟩) hS ?_; (· decide +kernel); (· decide +kernel); (· decide +kernel); (· (intro w' hS'; subst hS'; go_simp))) | (refine wpAnyG_take (i := 11) (v := .bool false) rfl ?_ ?_ ?_ (fun _ _ _ h => h) (Or.inl ⟨by rfl, ?_⟩) hS ?_; (· decide +kernel); (· decide +kernel); (· decide +kernel); (· (intro w' hS'; subst hS'; go_simp))))
        refine wpAnyG_done (by decide +kernel) ?_ _
        clear hS lk lk2
        go_wp2_with (fail)
        refine wp_region_g (S := fun w' => w' = X.drew.drew) (m := 8) (by kernel_rfl) ?_
        have hS : X.drew.drew = X.drew.drew := rfl
        repeat (first | (refine wpAnyG_take (i := 0) (v := .pointer (some ⟨G, 0, none⟩)) rfl ?_ ?_ ?_ (fun _ _ _ h => h) (Or.inl ⟨by rfl, ?_⟩) hS ?_; (· decide +kernel); (· decide +kernel); (· decide +kernel); (· (intro w' hS'; subst hS'; go_simp))) | (refine wpAnyG_take (i := 1) (v := .pointer (some ⟨G, 0, none⟩)) rfl ?_ ?_ ?_ (fun _ _ _ h => h) (Or.inl ⟨by rfl, ?_⟩) hS ?_; (· decide +kernel); (· decide +kernel); (· decide +kernel); (· (intro w' hS'; subst hS'; go_simp))) | (refine wpAnyG_take (i := 2) (v := .pointer (some ⟨G, 1, none⟩)) rfl ?_ ?_ ?_ (fun _ _ _ h => h) (Or.inl ⟨by rfl, ?_⟩) hS ?_; (· decide +kernel); (· decide +kernel); (· decide +kernel); (· (intro w' hS'; subst hS'; go_simp))) | (refine wpAnyG_take (i := 3) (v := .map (some I)) rfl ?_ ?_ ?_ (fun _ _ _ h => h) (Or.inl ⟨by rfl, ?_⟩) hS ?_; (· decide +kernel); (· decide +kernel); (· decide +kernel); (· (intro w' hS'; subst hS'; go_simp))) | (refine wpAnyG_take (i := 4) (v := .pointer (some ⟨E, 0, none⟩)) rfl ?_ ?_ ?_ (fun _ _ _ h => h) (Or.inl ⟨by rfl, ?_⟩) hS ?_; (· decide +kernel); (· decide +kernel); (· decide +kernel); (· (intro w' hS'; subst hS'; go_simp))) | (refine wpAnyG_take (i := 5) (v := .string N) rfl ?_ ?_ ?_ (fun _ _ _ h => h) (Or.inl ⟨by rfl, ?_⟩) hS ?_; (· decide +kernel); (· decide +kernel); (· decide +kernel); (· (intro w' hS'; subst hS'; go_simp))) | (refine wpAnyG_take (i := 6) (v := .pointer (some ⟨E, 2, none⟩)) rfl ?_ ?_ ?_ (fun _ _ _ h => h) (Or.inl ⟨by rfl, ?_⟩) hS ?_; (· decide +kernel); (· decide +kernel); (· decide +kernel); (· (intro w' hS'; subst hS'; go_simp))) | (refine wpAnyG_take (i := 7) (v := .string ⟨#[68]⟩) rfl ?_ ?_ ?_ (fun _ _ _ h => h) (Or.inl ⟨by rfl, ?_⟩) hS ?_; (· decide +kernel); (· decide +kernel); (· decide +kernel); (· (intro w' hS'; subst hS'; go_simp))))
        refine wpAnyG_ready (rs := [8]) (by decide +kernel) (by simp) ?_
        refine AllReadyG.cons rfl (fun K hK => ?_) AllReadyG.nil
        go_simp
        refine hK _ _ (fun h => absurd h (by omega)) ?_
        clear hK K
        refine wpAnyG_done (by decide +kernel) ?_ _
        clear hS up
        go_wp2_with (fail)
        refine ⟨⟨2, by omega, by go_num, ?_⟩, by simp [intOf]⟩
        obtain ⟨gr', gw'⟩ := FN.out
        refine ⟨bs, gr', HGR.out.2.1, (HGR.out.2.2.trans (GrownIn.of_below (own := fun _ => False) BX.out) (fun _ h => h.elim)).trans gw' (fun b h => .inl (.inr (.inr h)))⟩
    · obtain rfl : i = 11 := by omega
      rw [show ((11 : Nat) : Int) = 11 from rfl]
      have HN0 := Lib.hid (show NgInv W1 wr G U I (.slice none 0 0) nmA imA (usesF fs z 0) from HI.out)
      clear HI H0
      have hpb := fun (X : World) (hX : GrownIn (fun x => x = G ∨ x = U ∨ x = I) W1 X) => (show Blk X B 30 [bst [109], .int .i64 1, .slice none 0 0, .slice AD 1 cD, .slice none 0 0, .slice none 0 0, .slice AF 8 cF, .slice AZ 1 cZ] from (hX.block B HP.out.lt (fun h => by obtain ⟨h1, h2, h3, h4⟩ := HS.out; omega)).trans HP.out)
      have HPB := Lib.hid hpb
      have sx := fun (X : World) (hX : GrownIn (fun x => x = G ∨ x = U ∨ x = I) W1 X) => (show Same (fun b => b < w.heap.size) w X from fun b hb hl => by
        have hl1 : b < W.heap.size := Nat.lt_of_lt_of_le hl HW.out.1.size
        have hl2 : b < W1.heap.size := Nat.lt_of_lt_of_le hl1 HB1.out.size
        exact (hX.block b hl2 (fun h => by obtain ⟨h1, h2, h3, h4⟩ := HS.out; omega)).trans ((HB1.out.block b hl1).trans (HW.out.1.block b hl)))
      have HRD := Lib.hid (fun (X : World) (hX : GrownIn (fun x => x = G ∨ x = U ∨ x = I) W1 X) => (show (Reads X (fun b => b < w.heap.size) 3 AD 1 [bst [68], .slice none 0 0, .slice AM 1 cM] ∧ Reads X (fun b => b < w.heap.size) 2 AM 1 [bst [75], .slice none 0 0]) ∧ (Reads X (fun b => b < w.heap.size) 15 AF 8 (List.flatten vss) ∧ All2 (FnCells X (fun b => b < w.heap.size)) vss fs) ∧ Reads X (fun b => b < w.heap.size) 14 AZ 1 vs ∧ AcCells X (fun b => b < w.heap.size) vs z from
        ⟨⟨(HMD.out.1.1.imp (by omega) fun b _ h => h).keep (sx X hX), (HMD.out.1.2.imp (by omega) fun b _ h => h).keep (sx X hX)⟩, ⟨(HMD.out.2.1.1.imp (by omega) fun b _ h => h).keep (sx X hX), HMD.out.2.1.2.imp fun _ _ h => FnCells.stable.keep (FnCells.stable.imp h fun b _ h => h) (sx X hX)⟩, (HMD.out.2.2.1.imp (by omega) fun b _ h => h).keep (sx X hX), AcCells.stable.keep (AcCells.stable.imp HMD.out.2.2.2 fun b _ h => h) (sx X hX)⟩))
      have HBW := Lib.hid (fun (X : World) (hX : GrownIn (fun x => x = G ∨ x = U ∨ x = I) W1 X) => (show Below w.heap.size w X from Below.of_in (HW.out.1.trans (HB1.out.mono HW.out.1.size)) hX (fun b h => by obtain ⟨h1, h2, h3, h4⟩ := HS.out; omega) (Nat.le_trans HW.out.1.size HB1.out.size)))
      clear hpb sx HMD
      have GW0 := Lib.hid (show GrownIn (fun x => x = G ∨ x = U ∨ x = I) W1 wr from by obtain ⟨bs, _, _, gw⟩ := HN0.out; exact gw)
      have c3 : wr.cell? ⟨B, 3, none⟩ = some (.slice AD 1 cD) := (HPB.out wr GW0.out).cell 3
      have lB := lt_of_cell c3
      go_wp2_with (fail)
      go_loopw [69] (fun v w1 => (v = .int .i64 0 ∧ wr = w1) ∨ (v = .int .i64 1 ∧ Hid (Below wr.heap.size wr w1))) (fun v _ => 1 - (intOf v).toNat)
      case atStart => exact .inl ⟨rfl, rfl⟩
      case round =>
        rcases hrel with ⟨rfl, rfl⟩ | ⟨rfl, HD⟩
        · obtain ⟨q1, q2⟩ := (HRD.out wr GW0.out).1
          obtain ⟨bd, od, rfl, _, hc⟩ := q1.2 (by omega)
          obtain ⟨bm, om, rfl, _, hc2⟩ := q2.2 (by omega)
          have d0 : wr.cell? ⟨bd, od, none⟩ = some (.string ⟨#[68]⟩) := hc 0 _ rfl
          have d1 : wr.cell? ⟨bd, od + 1, none⟩ = some (.slice none 0 0) := hc 1 _ rfl
          have d2 : wr.cell? ⟨bd, od + 2, none⟩ = some (.slice (some ⟨bm, om, none⟩) 1 cM) := hc 2 _ rfl
          have m0 : wr.cell? ⟨bm, om, none⟩ = some (.string ⟨#[75]⟩) := hc2 0 _ rfl
          have m1 : wr.cell? ⟨bm, om + 1, none⟩ = some (.slice none 0 0) := hc2 1 _ rfl
          have ld := lt_of_cell d0
          obtain ⟨X, hX⟩ : ∃ X, X = wr.alloc (.cells #[.string ⟨#[68]⟩, .slice none 0 0, .slice (some ⟨bm, om, none⟩) 1 cM] 46) := ⟨_, rfl⟩
          obtain ⟨DB, hDB⟩ : ∃ X, X = wr.heap.size := ⟨_, rfl⟩
          have bX : Below wr.heap.size wr X := by rw [hX]; exact (Below.refl _ _).alloc (Nat.le_refl _) _
          have fD : Blk X DB 46 [.string ⟨#[68]⟩, .slice none 0 0, .slice (some ⟨bm, om, none⟩) 1 cM] := by rw [hX, hDB]; exact Blk.new wr _ _
          have x0 : X.cell? ⟨bm, om, none⟩ = some (.string ⟨#[75]⟩) := (bX.cell (p := ⟨bm, om, none⟩) (lt_of_cell m0)).trans m0
          have x1 : X.cell? ⟨bm, om + 1, none⟩ = some (.slice none 0 0) := (bX.cell (p := ⟨bm, om + 1, none⟩) (lt_of_cell m0)).trans m1
          have lx := lt_of_cell x0
          have HBX := Lib.hid bX
          have HFD := Lib.hid fD
          have HX := Lib.hid hX
          have HDB := Lib.hid hDB
          have fd2 := fD.cell 2
          have fd0 := fD.cell 0
          simp only [List.getElem?_cons_zero, List.getElem?_cons_succ] at fd2 fd0
          have lfd := lt_of_cell fd0
          clear hX hDB bX fD hc hc2 q1 q2 m0 m1
          go_wp2_with (fail)
          rw [← HX.out, ← HDB.out]
          go_loopw [76] (fun v w2 => (v = .int .i64 0 ∧ X = w2) ∨ (v = .int .i64 1 ∧ Hid (Below wr.heap.size wr w2))) (fun v _ => 1 - (intOf v).toNat)
          case atStart => exact .inl ⟨rfl, rfl⟩
          case round =>
            rcases hrel with ⟨rfl, rfl⟩ | ⟨rfl, HD⟩
            · clear d0 d1 d2 ld c3 lB
              obtain ⟨V, hV⟩ : ∃ V, V = World.drew (X.alloc (.cells #[.string ⟨#[75]⟩, .slice none 0 0] 43)) := ⟨_, rfl⟩
              obtain ⟨MB, hMB⟩ : ∃ M, M = X.heap.size := ⟨_, rfl⟩
              have bV : Below X.heap.size X V := by rw [hV]; exact ((Below.refl _ _).alloc (Nat.le_refl _) _).drew
              have fM : Blk V MB 43 [.string ⟨#[75]⟩, .slice none 0 0] := by rw [hV, hMB]; exact (Blk.new X _ _).drew
              have fD : Blk V DB 46 [.string ⟨#[68]⟩, .slice none 0 0, .slice (some ⟨bm, om, none⟩) 1 cM] := HFD.out.below bV HFD.out.lt
              have mk := fun (Y : World) (hY : Below V.heap.size V Y) => (show Y.cell? ⟨MB, 1, none⟩ = some (.slice none 0 0) ∧ Y.cell? ⟨DB, 0, none⟩ = some (.string ⟨#[68]⟩) from ⟨(fM.below hY fM.lt).cell 1, (fD.below hY fD.lt).cell 0⟩)
              have hS := mk V (Below.refl _ _)
              have MKK := Lib.hid mk
              have HV := Lib.hid (And.intro hV hMB)
              have BV := Lib.hid (below_next bV HBX.out)
              clear hV hMB bV fM fD mk
              go_wp2_with (fail)
              refine wp_region_g (S := fun w' => w'.cell? ⟨MB, 1, none⟩ = some (.slice none 0 0) ∧ w'.cell? ⟨DB, 0, none⟩ = some (.string ⟨#[68]⟩)) (m := 7) (by kernel_rfl) ?_
              rw [← HV.out.1, ← HV.out.2]
              repeat (first | (refine wpAnyG_take (i := 0) (v := .pointer (some ⟨MB, 1, none⟩)) rfl ?_ ?_ ?_ (fun _ _ _ h => h) (Or.inl ⟨by rfl, ?_⟩) hS ?_; (· decide +kernel); (· decide +kernel); (· decide +kernel); (· (intro w' hS'; (try dsimp only at hS'); go_split_ands; go_simp))) | (refine wpAnyG_take (i := 1) (v := .slice none 0 0) rfl ?_ ?_ ?_ (fun _ _ _ h => h) (Or.inl ⟨by rfl, ?_⟩) hS ?_; (· decide +kernel); (· decide +kernel); (· decide +kernel); (· (intro w' hS'; (try dsimp only at hS'); go_split_ands; go_simp))) | (refine wpAnyG_take (i := 2) (v := .pointer (some ⟨G, 0, none⟩)) rfl ?_ ?_ ?_ (fun _ _ _ h => h) (Or.inl ⟨by rfl, ?_⟩) hS ?_; (· decide +kernel); (· decide +kernel); (· decide +kernel); (· (intro w' hS'; (try dsimp only at hS'); go_split_ands; go_simp))) | (refine wpAnyG_take (i := 3) (v := .pointer (some ⟨DB, 0, none⟩)) rfl ?_ ?_ ?_ (fun _ _ _ h => h) (Or.inl ⟨by rfl, ?_⟩) hS ?_; (· decide +kernel); (· decide +kernel); (· decide +kernel); (· (intro w' hS'; (try dsimp only at hS'); go_split_ands; go_simp))) | (refine wpAnyG_take (i := 4) (v := .string ⟨#[68]⟩) rfl ?_ ?_ ?_ (fun _ _ _ h => h) (Or.inl ⟨by rfl, ?_⟩) hS ?_; (· decide +kernel); (· decide +kernel); (· decide +kernel); (· (intro w' hS'; (try dsimp only at hS'); go_split_ands; go_simp))))
              refine wpAnyG_ready (rs := [5]) (by decide +kernel) (by simp) ?_
              refine AllReadyG.cons rfl (fun K hK => ?_) AllReadyG.nil
              go_simp
              refine (adder_any _ G [68]).mono ?_
              rintro e w5 ⟨p1, p2, rfl, _, _, _, _, hb5⟩
              try dsimp only
              have hS2 := MKK.out w5 hb5
              have B5 := Lib.hid (below_next hb5 BV.out)
              clear hb5 hS
              refine hK _ _ (fun _ => hS2) ?_
              clear hK K
              refine wpAnyG_ready (rs := [6]) (by decide +kernel) (by simp) ?_
              refine AllReadyG.cons rfl (fun K hK => ?_) AllReadyG.nil
              go_simp
              refine (types_nil _ _).mono ?_
              rintro e w6 ⟨rfl, rfl⟩
              try dsimp only
              refine hK _ _ (fun _ => hS2) ?_
              clear hK K hS2
              refine wpAnyG_done (by decide +kernel) ?_ _
              go_wp2_with (fail)
              exact ⟨.inr ⟨by go_num, B5.out⟩, by simp [intOf]⟩
            · clear d0 d1 d2 ld c3 lB x0 x1 lx fd2 fd0 lfd
              go_wp2_with (fail)
              exact ⟨.inr ⟨by go_num, HD.out⟩, by simp [intOf]⟩
        · have HN1 := Lib.hid (HN0.out.below HD.out)
          have GW1 := Lib.hid (show GrownIn (fun x => x = G ∨ x = U ∨ x = I) W1 wr from by obtain ⟨bs, _, _, gw⟩ := HN1.out; exact gw)
          clear HN0 HD c3 lB GW0
          have c4 : wr.cell? ⟨B, 4, none⟩ = some (.slice none 0 0) := (HPB.out wr GW1.out).cell 4
          have c5 : wr.cell? ⟨B, 5, none⟩ = some (.slice none 0 0) := (HPB.out wr GW1.out).cell 5
          have c6 : wr.cell? ⟨B, 6, none⟩ = some (.slice AF 8 cF) := (HPB.out wr GW1.out).cell 6
          have lB := lt_of_cell c4
          go_wp2_with (fail)
          go_loopw [92] (fun v w9 => v = .int .i64 0 ∧ wr = w9) (fun _ _ => 0)
          case atStart => exact ⟨rfl, rfl⟩
          case round =>
            obtain ⟨rfl, rfl⟩ := hrel
            go_wp2_with (fail)
            go_loopw [107] (fun v w9 => v = .int .i64 0 ∧ wr = w9) (fun _ _ => 0)
            case atStart => exact ⟨rfl, rfl⟩
            case round =>
              obtain ⟨rfl, rfl⟩ := hrel
              go_wp2_with (fail)
              go_loopw [138] (fun v w9 => ∃ k : Nat, k ≤ 8 ∧ v = .int .i64 (k : Nat) ∧ Hid (NgInv W1 w9 G U I (.slice none 0 0) nmA imA (usesF fs z k))) (fun v _ => 8 - (intOf v).toNat)
              case atStart => exact ⟨0, by omega, rfl, HN1.out⟩
              case round =>
                obtain ⟨k, hk, rfl, HK⟩ := hrel
                clear c4 c5 c6 lB
                by_cases hlt : k < 8
                · obtain ⟨bs, gr, hbs, gw⟩ := HK.out
                  have hkl : k < fs.length := by rw [HE.out.1]; exact hlt
                  obtain ⟨q1, q2⟩ := (HRD.out wr gw).2.1
                  obtain ⟨bf, off, fcs, rfl, _, hx, hc⟩ := q1.elem FnCells.stable q2 HE.out.1.symm hkl
                  have hx0 := hx
                  obtain ⟨kk, tx, Ab, mb, cb, rfl⟩ := hx.shape
                  obtain ⟨N, hN⟩ : ∃ N : ByteArray, N = ⟨((fs[k]).1).toArray⟩ := ⟨_, rfl⟩
                  have e0 : bst (fs[k]).1 = .string N := by rw [hN]
                  rw [e0] at hx0
                  have ad := fun (Y : World) => adder_any Y G (fs[k]).1
                  rw [e0] at ad
                  have AD := Lib.hid ad
                  have f0 : wr.cell? ⟨bf, off + k * 15, none⟩ = some (.string N) := by rw [hN]; exact hc 0 _ rfl
                  have f1 : wr.cell? ⟨bf, off + k * 15 + 1, none⟩ = some (.slice none 0 0) := hc 1 _ rfl
                  have f2 : wr.cell? ⟨bf, off + k * 15 + 2, none⟩ = some (.slice none 0 0) := hc 2 _ rfl
                  have f3 : wr.cell? ⟨bf, off + k * 15 + 3, none⟩ = some (.slice none 0 0) := hc 3 _ rfl
                  have f4 : wr.cell? ⟨bf, off + k * 15 + 4, none⟩ = some (.int .i64 1) := hc 4 _ rfl
                  have f5 : wr.cell? ⟨bf, off + k * 15 + 5, none⟩ = some (.string ⟨#[]⟩) := hc 5 _ rfl
                  have f6 : wr.cell? ⟨bf, off + k * 15 + 6, none⟩ = some (.slice none 0 0) := hc 6 _ rfl
                  have f7 : wr.cell? ⟨bf, off + k * 15 + 7, none⟩ = some (.int .i64 kk) := hc 7 _ rfl
                  have f8 : wr.cell? ⟨bf, off + k * 15 + 8, none⟩ = some (.int .i64 0) := hc 8 _ rfl
                  have f9 : wr.cell? ⟨bf, off + k * 15 + 9, none⟩ = some (.string tx) := hc 9 _ rfl
                  have f10 : wr.cell? ⟨bf, off + k * 15 + 10, none⟩ = some (.slice none 0 0) := hc 10 _ rfl
                  have f11 : wr.cell? ⟨bf, off + k * 15 + 11, none⟩ = some (.slice none 0 0) := hc 11 _ rfl
                  have f12 : wr.cell? ⟨bf, off + k * 15 + 12, none⟩ = some (.slice Ab mb cb) := hc 12 _ rfl
                  have f13 : wr.cell? ⟨bf, off + k * 15 + 13, none⟩ = some (.slice none 0 0) := hc 13 _ rfl
                  have f14 : wr.cell? ⟨bf, off + k * 15 + 14, none⟩ = some (.int .i64 0) := hc 14 _ rfl
                  have lf := lt_of_cell f0
                  obtain ⟨bk, hbk⟩ : ∃ b, bs[k + 2]? = some b := ⟨_, List.getElem?_eq_getElem (by rw [gr.lb]; have : nmA.length = 10 := rfl; omega)⟩
                  have hbkW := hbs bk (List.mem_of_getElem? hbk)
                  have hbkl := gr.blk_lt (List.mem_of_getElem? hbk)
                  have hwW : w.heap.size ≤ W1.heap.size := Nat.le_trans HW.out.1.size HB1.out.size
                  have hnk : nmA[k + 2]? = some (fs[k]).1 := by rw [HE.out.2 k hkl]; exact nmA_at k hlt
                  have hlk := usesF_at fs z k HE.out.1 hlt
                  have hbdk := HBD.out.1 _ (List.getElem_mem hkl)
                  obtain ⟨V, hV⟩ : ∃ V, V = World.drew (wr.alloc (.cells #[.string N, .slice none 0 0, .slice none 0 0, .slice none 0 0, .int .i64 1, .string ⟨#[]⟩, .slice none 0 0, .int .i64 kk, .int .i64 0, .string tx, .slice none 0 0, .slice none 0 0, .slice Ab mb cb, .slice none 0 0, .int .i64 0] 56)) := ⟨_, rfl⟩
                  obtain ⟨F, hF⟩ : ∃ F, F = wr.heap.size := ⟨_, rfl⟩
                  have bV : Below wr.heap.size wr V := by rw [hV]; exact ((Below.refl _ _).alloc (Nat.le_refl _) _).drew
                  have fF : Blk V F 56 [.string N, .slice none 0 0, .slice none 0 0, .slice none 0 0, .int .i64 1, .string ⟨#[]⟩, .slice none 0 0, .int .i64 kk, .int .i64 0, .string tx, .slice none 0 0, .slice none 0 0, .slice Ab mb cb, .slice none 0 0, .int .i64 0] := by rw [hV, hF]; exact (Blk.new wr _ _).drew
                  have hVbk : V.heap.size ≠ bk := by have := bV.size; omega
                  have fu := fun (X : World) (hX : Below V.heap.size V X) (A0 : Option Addr) (c0 p1 p2 : Nat) (hr : Reads X (fun x => x ≠ bk) 15 A0 1 [.string N, .slice none 0 0, .slice none 0 0, .slice none 0 0, .int .i64 1, .string ⟨#[]⟩, .slice none 0 0, .int .i64 kk, .int .i64 0, .string tx, .slice none 0 0, .slice none 0 0, .slice Ab mb cb, .slice none 0 0, .int .i64 0]) (h1 : X.cell? ⟨p1, 0, none⟩ = some (.pointer (some ⟨G, 0, none⟩))) (h2 : X.cell? ⟨p2, 0, none⟩ = some (.string N)) =>
                    (show Calls Tryz.prog 28 #[.slice A0 1 c0, .func (.func 49) #[] #[.pointer (some ⟨p1, 0, none⟩), .pointer (some ⟨p2, 0, none⟩)]] X fun e w' => e = .returned (.tuple #[]) ∧ NgInv W1 w' G U I (.slice none 0 0) nmA imA (usesF fs z (k + 1)) from
                      (funcs_any G U I p1 p2 (k + 2) bk (.slice none 0 0) nmA imA bs (usesF fs z k) (fs[k]).1 [] (fs[k]).2 (fs[k]).1 A0 c0 [.string N, .slice none 0 0, .slice none 0 0, .slice none 0 0, .int .i64 1, .string ⟨#[]⟩, .slice none 0 0, .int .i64 kk, .int .i64 0, .string tx, .slice none 0 0, .slice none 0 0, .slice Ab mb cb, .slice none 0 0, .int .i64 0] X hr
                        (FnCells.stable.keep (FnCells.stable.imp hx0 fun b hb _ => by omega) (Same.of_below (below_next hX bV) fun _ _ h => h)) (gr.below (below_next hX bV)) h1 (by rw [h2, e0]) hnk hbk hlk (bdOk_res hbdk)).mono fun e w' h => ⟨h.1, by
                          have h9 := NgInv.put (gr.below (below_next hX bV)) hbs (gw.trans (GrownIn.of_below (own := fun _ => False) (below_next hX bV)) (fun _ h => h.elim)) hbk h.2.2 h.2.1
                          rw [usesF_set fs z k HE.out.1 hlt hkl] at h9
                          exact h9⟩)
                  have FU := Lib.hid fu
                  have mk := fun (Y : World) (hY : Below V.heap.size V Y) => (show Y.cell? ⟨F, 0, none⟩ = some (.string N) ∧ Y.cell? ⟨F, 1, none⟩ = some (.slice none 0 0) ∧ Y.cell? ⟨F, 2, none⟩ = some (.slice none 0 0) ∧ Y.cell? ⟨F, 3, none⟩ = some (.slice none 0 0) ∧ Y.cell? ⟨F, 4, none⟩ = some (.int .i64 1) ∧ Y.cell? ⟨F, 5, none⟩ = some (.string ⟨#[]⟩) ∧ Y.cell? ⟨F, 6, none⟩ = some (.slice none 0 0) ∧ Y.cell? ⟨F, 7, none⟩ = some (.int .i64 kk) ∧ Y.cell? ⟨F, 8, none⟩ = some (.int .i64 0) ∧ Y.cell? ⟨F, 9, none⟩ = some (.string tx) ∧ Y.cell? ⟨F, 10, none⟩ = some (.slice none 0 0) ∧ Y.cell? ⟨F, 11, none⟩ = some (.slice none 0 0) ∧ Y.cell? ⟨F, 12, none⟩ = some (.slice Ab mb cb) ∧ Y.cell? ⟨F, 13, none⟩ = some (.slice none 0 0) ∧ Y.cell? ⟨F, 14, none⟩ = some (.int .i64 0) from ⟨(fF.below hY fF.lt).cell 0, (fF.below hY fF.lt).cell 1, (fF.below hY fF.lt).cell 2, (fF.below hY fF.lt).cell 3, (fF.below hY fF.lt).cell 4, (fF.below hY fF.lt).cell 5, (fF.below hY fF.lt).cell 6, (fF.below hY fF.lt).cell 7, (fF.below hY fF.lt).cell 8, (fF.below hY fF.lt).cell 9, (fF.below hY fF.lt).cell 10, (fF.below hY fF.lt).cell 11, (fF.below hY fF.lt).cell 12, (fF.below hY fF.lt).cell 13, (fF.below hY fF.lt).cell 14⟩)
                  have hS := mk V (Below.refl _ _)
                  have MKK := Lib.hid mk
                  have HV := Lib.hid (And.intro hV hF)
                  have HVB := Lib.hid hVbk
                  have HBK := Lib.hid (show bk < V.heap.size from by have := bV.size; omega)
                  clear hV hF bV fF mk fu ad hx0 e0 hN hc q1 q2 gr hbs gw hbk hbkW hbkl hwW hnk hlk hbdk hVbk
                  go_wp2_with (fail)
                  refine wp_region_g (S := fun Y => Y.cell? ⟨F, 0, none⟩ = some (.string N) ∧ Y.cell? ⟨F, 1, none⟩ = some (.slice none 0 0) ∧ Y.cell? ⟨F, 2, none⟩ = some (.slice none 0 0) ∧ Y.cell? ⟨F, 3, none⟩ = some (.slice none 0 0) ∧ Y.cell? ⟨F, 4, none⟩ = some (.int .i64 1) ∧ Y.cell? ⟨F, 5, none⟩ = some (.string ⟨#[]⟩) ∧ Y.cell? ⟨F, 6, none⟩ = some (.slice none 0 0) ∧ Y.cell? ⟨F, 7, none⟩ = some (.int .i64 kk) ∧ Y.cell? ⟨F, 8, none⟩ = some (.int .i64 0) ∧ Y.cell? ⟨F, 9, none⟩ = some (.string tx) ∧ Y.cell? ⟨F, 10, none⟩ = some (.slice none 0 0) ∧ Y.cell? ⟨F, 11, none⟩ = some (.slice none 0 0) ∧ Y.cell? ⟨F, 12, none⟩ = some (.slice Ab mb cb) ∧ Y.cell? ⟨F, 13, none⟩ = some (.slice none 0 0) ∧ Y.cell? ⟨F, 14, none⟩ = some (.int .i64 0)) (m := 6) (by kernel_rfl) ?_
                  rw [← HV.out.1, ← HV.out.2]
                  repeat (first | (refine wpAnyG_take (i := 0) (v := .agg #[.string N, .slice none 0 0, .slice none 0 0, .slice none 0 0, .int .i64 1, .string ⟨#[]⟩, .slice none 0 0, .int .i64 kk, .int .i64 0, .string tx, .slice none 0 0, .slice none 0 0, .slice Ab mb cb, .slice none 0 0, .int .i64 0]) rfl ?_ ?_ ?_ (fun _ _ _ h => h) (Or.inl ⟨by rfl, ?_⟩) hS ?_; (· decide +kernel); (· decide +kernel); (· decide +kernel); (· (intro w' hS'; (try dsimp only at hS'); go_split_ands; go_simp))) | (refine wpAnyG_take (i := 2) (v := .pointer (some ⟨G, 0, none⟩)) rfl ?_ ?_ ?_ (fun _ _ _ h => h) (Or.inl ⟨by rfl, ?_⟩) hS ?_; (· decide +kernel); (· decide +kernel); (· decide +kernel); (· (intro w' hS'; (try dsimp only at hS'); go_split_ands; go_simp))) | (refine wpAnyG_take (i := 3) (v := .pointer (some ⟨F, 0, none⟩)) rfl ?_ ?_ ?_ (fun _ _ _ h => h) (Or.inl ⟨by rfl, ?_⟩) hS ?_; (· decide +kernel); (· decide +kernel); (· decide +kernel); (· (intro w' hS'; (try dsimp only at hS'); go_split_ands; go_simp))) | (refine wpAnyG_take (i := 4) (v := .string N) rfl ?_ ?_ ?_ (fun _ _ _ h => h) (Or.inl ⟨by rfl, ?_⟩) hS ?_; (· decide +kernel); (· decide +kernel); (· decide +kernel); (· (intro w' hS'; (try dsimp only at hS'); go_split_ands; go_simp))))
                  refine wpAnyG_ready (rs := [1, 5]) (by decide +kernel) (by simp) ?_
                  refine AllReadyG.cons rfl (fun K hK => ?_) (AllReadyG.cons rfl (fun K hK => ?_) AllReadyG.nil)
                  · skip
                    go_simp
                    have bA : Below V.heap.size V (V.alloc (.cells #[.string N, .slice none 0 0, .slice none 0 0, .slice none 0 0, .int .i64 1, .string ⟨#[]⟩, .slice none 0 0, .int .i64 kk, .int .i64 0, .string tx, .slice none 0 0, .slice none 0 0, .slice Ab mb cb, .slice none 0 0, .int .i64 0] 56)) := (Below.refl _ _).alloc (Nat.le_refl _) _
                    have rdA : Reads (V.alloc (.cells #[.string N, .slice none 0 0, .slice none 0 0, .slice none 0 0, .int .i64 1, .string ⟨#[]⟩, .slice none 0 0, .int .i64 kk, .int .i64 0, .string tx, .slice none 0 0, .slice none 0 0, .slice Ab mb cb, .slice none 0 0, .int .i64 0] 56)) (fun x => x ≠ bk) 15 (some ⟨V.heap.size, 0, none⟩) 1 [.string N, .slice none 0 0, .slice none 0 0, .slice none 0 0, .int .i64 1, .string ⟨#[]⟩, .slice none 0 0, .int .i64 kk, .int .i64 0, .string tx, .slice none 0 0, .slice none 0 0, .slice Ab mb cb, .slice none 0 0, .int .i64 0] := Reads.new V _ 15 1 _ (fun x => x ≠ bk) HVB.out rfl
                    refine hK _ _ (fun _ => MKK.out _ bA) ?_
                    clear hK K
                    refine wpAnyG_ready (rs := [5]) (by decide +kernel) (by simp) ?_
                    refine AllReadyG.cons rfl (fun K hK => ?_) AllReadyG.nil
                    go_simp
                    refine (AD.out _).mono ?_
                    rintro e w5 ⟨p1, p2, rfl, h1, h2, _, _, hb5⟩
                    try dsimp only
                    have b5 : Below V.heap.size V w5 := below_next hb5 bA
                    refine hK _ _ (fun _ => MKK.out _ b5) ?_
                    clear hK K
                    have rd5 := rdA.keep (Same.of_below hb5 fun _ _ h => h)
                    refine wpAnyG_ready (rs := [6]) (by decide +kernel) (by simp) ?_
                    refine AllReadyG.cons rfl (fun K hK => ?_) AllReadyG.nil
                    go_simp
                    refine (FU.out _ b5 _ _ p1 p2 rd5 h1 h2).mono ?_
                    rintro e w6 ⟨rfl, hn6⟩
                    have HN6 := Lib.hid hn6
                    clear hn6
                    try dsimp only
                    refine hK _ _ (fun h => absurd h (by omega)) ?_
                    clear hK K
                    refine wpAnyG_done (by decide +kernel) ?_ _
                    clear hS h1 h2
                    go_wp2_with (fail)
                    exact ⟨⟨k + 1, by omega, by go_num, HN6.out⟩, by simp [intOf]; omega⟩
                  · skip
                    go_simp
                    refine (AD.out _).mono ?_
                    rintro e w5 ⟨p1, p2, rfl, h1, h2, _, _, hb5⟩
                    try dsimp only
                    have b5 : Below V.heap.size V w5 := hb5
                    refine hK _ _ (fun _ => MKK.out _ b5) ?_
                    clear hK K
                    refine wpAnyG_ready (rs := [1]) (by decide +kernel) (by simp) ?_
                    refine AllReadyG.cons rfl (fun K hK => ?_) AllReadyG.nil
                    have hwbk : w5.heap.size ≠ bk := by have := b5.size; have h9 := HBK.out; omega
                    go_simp
                    have bA : Below V.heap.size V (w5.alloc (.cells #[.string N, .slice none 0 0, .slice none 0 0, .slice none 0 0, .int .i64 1, .string ⟨#[]⟩, .slice none 0 0, .int .i64 kk, .int .i64 0, .string tx, .slice none 0 0, .slice none 0 0, .slice Ab mb cb, .slice none 0 0, .int .i64 0] 56)) := b5.alloc b5.size _
                    have rdA : Reads (w5.alloc (.cells #[.string N, .slice none 0 0, .slice none 0 0, .slice none 0 0, .int .i64 1, .string ⟨#[]⟩, .slice none 0 0, .int .i64 kk, .int .i64 0, .string tx, .slice none 0 0, .slice none 0 0, .slice Ab mb cb, .slice none 0 0, .int .i64 0] 56)) (fun x => x ≠ bk) 15 (some ⟨w5.heap.size, 0, none⟩) 1 [.string N, .slice none 0 0, .slice none 0 0, .slice none 0 0, .int .i64 1, .string ⟨#[]⟩, .slice none 0 0, .int .i64 kk, .int .i64 0, .string tx, .slice none 0 0, .slice none 0 0, .slice Ab mb cb, .slice none 0 0, .int .i64 0] := Reads.new w5 _ 15 1 _ (fun x => x ≠ bk) hwbk rfl
                    refine hK _ _ (fun _ => MKK.out _ bA) ?_
                    clear hK K
                    refine wpAnyG_ready (rs := [6]) (by decide +kernel) (by simp) ?_
                    refine AllReadyG.cons rfl (fun K hK => ?_) AllReadyG.nil
                    go_simp
                    refine (FU.out _ bA _ _ p1 p2 rdA (((Below.refl w5.heap.size w5).alloc (Nat.le_refl _) _).cell (p := ⟨p1, 0, none⟩) (lt_of_cell h1) |>.trans h1) (((Below.refl w5.heap.size w5).alloc (Nat.le_refl _) _).cell (p := ⟨p2, 0, none⟩) (lt_of_cell h2) |>.trans h2)).mono ?_
                    rintro e w6 ⟨rfl, hn6⟩
                    have HN6 := Lib.hid hn6
                    clear hn6
                    try dsimp only
                    refine hK _ _ (fun h => absurd h (by omega)) ?_
                    clear hK K
                    refine wpAnyG_done (by decide +kernel) ?_ _
                    clear hS h1 h2
                    go_wp2_with (fail)
                    exact ⟨⟨k + 1, by omega, by go_num, HN6.out⟩, by simp [intOf]; omega⟩
                · obtain rfl : k = 8 := by omega
                  rw [show ((8 : Nat) : Int) = 8 from rfl]
                  have GW8 := Lib.hid (show GrownIn (fun x => x = G ∨ x = U ∨ x = I) W1 wr from by obtain ⟨bs, _, _, gw⟩ := HK.out; exact gw)
                  have c7 : wr.cell? ⟨B, 7, none⟩ = some (.slice AZ 1 cZ) := (HPB.out wr GW8.out).cell 7
                  have lB := lt_of_cell c7
                  go_wp2_with (fail)
                  go_loopw [153] (fun v w9 => (v = .int .i64 0 ∧ wr = w9) ∨ (v = .int .i64 1 ∧ Hid (∃ A c bs, Gr w9 G U I (.slice A 1 c) nmA imA bs (usesA fs z) ∧ 1 ≤ c ∧ c ≤ maxLen ∧ Reads w9 Any 1 A 1 [bst [90]] ∧ Below w.heap.size w w9))) (fun v _ => 1 - (intOf v).toNat)
                  case atStart => exact .inl ⟨rfl, rfl⟩
                  case round =>
                    rcases hrel with ⟨rfl, rfl⟩ | ⟨rfl, HF⟩
                    · clear c7 lB
                      obtain ⟨bs, gr, hbs, gw⟩ := HK.out
                      obtain ⟨q1, q2⟩ := (HRD.out wr gw).2.2
                      obtain ⟨ba, oa, rfl, _, hc⟩ := q1.2 (by omega)
                      obtain ⟨ecs, rfl, hb⟩ := q2
                      have hb0 := hb
                      obtain ⟨kk, tx, Ab, mb, cb, rfl⟩ := hb.shape
                      have f0 : wr.cell? ⟨ba, oa, none⟩ = some (.string ⟨#[90]⟩) := hc 0 _ rfl
                      have f1 : wr.cell? ⟨ba, oa + 1, none⟩ = some (.slice none 0 0) := hc 1 _ rfl
                      have f2 : wr.cell? ⟨ba, oa + 2, none⟩ = some (.slice none 0 0) := hc 2 _ rfl
                      have f3 : wr.cell? ⟨ba, oa + 3, none⟩ = some (.int .i64 1) := hc 3 _ rfl
                      have f4 : wr.cell? ⟨ba, oa + 4, none⟩ = some (.string ⟨#[]⟩) := hc 4 _ rfl
                      have f5 : wr.cell? ⟨ba, oa + 5, none⟩ = some (.slice none 0 0) := hc 5 _ rfl
                      have f6 : wr.cell? ⟨ba, oa + 6, none⟩ = some (.int .i64 kk) := hc 6 _ rfl
                      have f7 : wr.cell? ⟨ba, oa + 7, none⟩ = some (.int .i64 0) := hc 7 _ rfl
                      have f8 : wr.cell? ⟨ba, oa + 8, none⟩ = some (.string tx) := hc 8 _ rfl
                      have f9 : wr.cell? ⟨ba, oa + 9, none⟩ = some (.slice none 0 0) := hc 9 _ rfl
                      have f10 : wr.cell? ⟨ba, oa + 10, none⟩ = some (.slice none 0 0) := hc 10 _ rfl
                      have f11 : wr.cell? ⟨ba, oa + 11, none⟩ = some (.slice Ab mb cb) := hc 11 _ rfl
                      have f12 : wr.cell? ⟨ba, oa + 12, none⟩ = some (.slice none 0 0) := hc 12 _ rfl
                      have f13 : wr.cell? ⟨ba, oa + 13, none⟩ = some (.int .i64 0) := hc 13 _ rfl
                      have lf := lt_of_cell f0
                      obtain ⟨bk, hbk⟩ : ∃ b, bs[1]? = some b := ⟨_, List.getElem?_eq_getElem (by rw [gr.lb]; have : nmA.length = 10 := rfl; omega)⟩
                      have hbkW := hbs bk (List.mem_of_getElem? hbk)
                      have hbkl := gr.blk_lt (List.mem_of_getElem? hbk)
                      have hwW : w.heap.size ≤ W1.heap.size := Nat.le_trans HW.out.1.size HB1.out.size
                      obtain ⟨X, hX⟩ : ∃ X, X = wr.alloc (.cells #[.string ⟨#[90]⟩, .slice none 0 0, .slice none 0 0, .int .i64 1, .string ⟨#[]⟩, .slice none 0 0, .int .i64 kk, .int .i64 0, .string tx, .slice none 0 0, .slice none 0 0, .slice Ab mb cb, .slice none 0 0, .int .i64 0] 58) := ⟨_, rfl⟩
                      obtain ⟨AB, hAB⟩ : ∃ X, X = wr.heap.size := ⟨_, rfl⟩
                      have bX : Below wr.heap.size wr X := by rw [hX]; exact (Below.refl _ _).alloc (Nat.le_refl _) _
                      have fA : Blk X AB 58 [.string ⟨#[90]⟩, .slice none 0 0, .slice none 0 0, .int .i64 1, .string ⟨#[]⟩, .slice none 0 0, .int .i64 kk, .int .i64 0, .string tx, .slice none 0 0, .slice none 0 0, .slice Ab mb cb, .slice none 0 0, .int .i64 0] := by rw [hX, hAB]; exact Blk.new wr _ _
                      have BD := Lib.hid (fun (Y : World) (hY : Below wr.heap.size wr Y) (p1 p2 : Nat) (h1 : Y.cell? ⟨p1, 0, none⟩ = some (.pointer (some ⟨G, 0, none⟩))) (h2 : Y.cell? ⟨p2, 0, none⟩ = some (bst [90])) =>
                        (show Calls Tryz.prog 30 #[.agg #[.int .i64 kk, .int .i64 0, .string tx, .slice none 0 0, .slice none 0 0, .slice Ab mb cb, .slice none 0 0, .int .i64 0], .func (.func 49) #[] #[.pointer (some ⟨p1, 0, none⟩), .pointer (some ⟨p2, 0, none⟩)]] Y fun e w' => e = .returned (.tuple #[]) ∧ NgInv W1 w' G U I (.slice none 0 0) nmA imA (usesA fs z) ∧ GrownIn (fun x => x = bk) Y w' from
                          (body_any G U I p1 p2 1 bk (.slice none 0 0) nmA imA bs (usesF fs z 8) [90] [] z [.int .i64 kk, .int .i64 0, .string tx, .slice none 0 0, .slice none 0 0, .slice Ab mb cb, .slice none 0 0, .int .i64 0] Y (BdCells.stable.keep (BdCells.stable.imp hb0 fun b hb _ => by omega) (Same.of_below hY fun _ _ h => h)) (gr.below hY) h1 h2 rfl hbk rfl (bdOk_res HBD.out.2)).mono fun e w' h => ⟨h.1, by
                              have h9 := NgInv.put (gr.below hY) hbs (gw.trans (GrownIn.of_below (own := fun _ => False) hY) (fun _ h => h.elim)) hbk h.2.2 h.2.1
                              rw [usesF_end fs z HE.out.1] at h9
                              exact h9, h.2.2⟩))
                      have HABk := Lib.hid (show AB ≠ bk from by omega)
                      have BX := Lib.hid bX
                      have HFA := Lib.hid fA
                      have HX := Lib.hid (And.intro hX hAB)
                      clear hb0 q1 hc gr hbs gw hbk hbkW hbkl hwW hX hAB bX fA HK
                      go_wp2_with (fail)
                      rw [← HX.out.1, ← HX.out.2]
                      refine (adder_any X G [90]).mono ?_
                      rintro e w3 ⟨p1, p2, rfl, h1, h2, _, _, hb3⟩
                      have fA3 := HFA.out.below hb3 HFA.out.lt
                      have H12 := Lib.hid (And.intro h1 h2)
                      have B3 := Lib.hid (below_next hb3 BX.out)
                      have FA3 := Lib.hid fA3
                      have a2 := fA3.cell 2
                      have a3 := fA3.cell 3
                      have a4 := fA3.cell 4
                      have a5 := fA3.cell 5
                      simp only [List.getElem?_cons_zero, List.getElem?_cons_succ] at a2 a3 a4 a5
                      have la := lt_of_cell a2
                      clear fA3 hb3 h1 h2 f0 f1 f2 f3 f4 f5 f6 f7 f8 f9 f10 f11 f12 f13 lf
                      go_wp2_with (fail)
                      refine (types_nil _ _).mono ?_
                      rintro e w6 ⟨rfl, rfl⟩
                      go_wp2_with (fail)
                      refine (typ_int _ _).mono ?_
                      rintro e w4 ⟨rfl, hb4⟩
                      have fA4 := FA3.out.below hb4 FA3.out.lt
                      have B4 := Lib.hid (And.intro (below_next hb4 B3.out) (And.intro ((hb4.cell (p := ⟨p1, 0, none⟩) (lt_of_cell H12.out.1)).trans H12.out.1) ((hb4.cell (p := ⟨p2, 0, none⟩) (lt_of_cell H12.out.2)).trans H12.out.2)))
                      have FA4 := Lib.hid fA4
                      have z6 := fA4.cell 6
                      have z7 := fA4.cell 7
                      have z8 := fA4.cell 8
                      have z9 := fA4.cell 9
                      have z10 := fA4.cell 10
                      have z11 := fA4.cell 11
                      have z12 := fA4.cell 12
                      have z13 := fA4.cell 13
                      simp only [List.getElem?_cons_zero, List.getElem?_cons_succ] at z6 z7 z8 z9 z10 z11 z12 z13
                      have lz := lt_of_cell z6
                      clear fA4 hb4 a2 a3 a4 a5 la
                      go_wp2_with (fail)
                      refine (BD.out w4 B4.out.1 p1 p2 B4.out.2.1 B4.out.2.2).mono ?_
                      rintro e w5 ⟨rfl, hn5, hg5⟩
                      have fA5 : Blk w5 AB 58 [.string ⟨#[90]⟩, .slice none 0 0, .slice none 0 0, .int .i64 1, .string ⟨#[]⟩, .slice none 0 0, .int .i64 kk, .int .i64 0, .string tx, .slice none 0 0, .slice none 0 0, .slice Ab mb cb, .slice none 0 0, .int .i64 0] := (hg5.block AB FA4.out.lt HABk.out).trans FA4.out
                      obtain ⟨bs5, gr5, hbs5, gw5⟩ := hn5
                      have H5 := Lib.hid (And.intro gr5 gw5)
                      obtain ⟨V, hV⟩ : ∃ V, V = World.drew w5 := ⟨_, rfl⟩
                      have bV : Below w5.heap.size w5 V := by rw [hV]; exact (Below.refl _ _).drew
                      have grV := gr5.below bV
                      have fAV := fA5.below bV fA5.lt
                      have mk := fun (Y : World) (hY : Below V.heap.size V Y) => (show Y.cell? ⟨G, 2, none⟩ = some (.slice none 0 0) ∧ Y.cell? ⟨AB, 0, none⟩ = some (.string ⟨#[90]⟩) from ⟨(grV.g.below hY grV.g.lt).cell 2, (fAV.below hY fAV.lt).cell 0⟩)
                      have hS := mk V (Below.refl _ _)
                      have MKK := Lib.hid mk
                      have HV := Lib.hid hV
                      have BV := Lib.hid (And.intro bV grV)
                      clear hV bV grV fAV mk fA5 gr5 hbs5 gw5 hg5 z6 z7 z8 z9 z10 z11 z12 z13 lz
                      go_wp2_with (fail)
                      refine wp_region_g (S := fun Y => Y.cell? ⟨G, 2, none⟩ = some (.slice none 0 0) ∧ Y.cell? ⟨AB, 0, none⟩ = some (.string ⟨#[90]⟩)) (m := 11) (by kernel_rfl) ?_
                      rw [← HV.out]
                      repeat (first | (refine wpAnyG_take (i := 0) (v := .pointer (some ⟨G, 0, none⟩)) rfl ?_ ?_ ?_ (fun _ _ _ h => h) (Or.inl ⟨by rfl, ?_⟩) hS ?_; (· decide +kernel); (· decide +kernel); (· decide +kernel); (· (intro w' hS'; (try dsimp only at hS'); go_split_ands; go_simp))) | (refine wpAnyG_take (i := 1) (v := .pointer (some ⟨G, 0, none⟩)) rfl ?_ ?_ ?_ (fun _ _ _ h => h) (Or.inl ⟨by rfl, ?_⟩) hS ?_; (· decide +kernel); (· decide +kernel); (· decide +kernel); (· (intro w' hS'; (try dsimp only at hS'); go_split_ands; go_simp))) | (refine wpAnyG_take (i := 2) (v := .pointer (some ⟨G, 0, none⟩)) rfl ?_ ?_ ?_ (fun _ _ _ h => h) (Or.inl ⟨by rfl, ?_⟩) hS ?_; (· decide +kernel); (· decide +kernel); (· decide +kernel); (· (intro w' hS'; (try dsimp only at hS'); go_split_ands; go_simp))) | (refine wpAnyG_take (i := 3) (v := .pointer (some ⟨G, 2, none⟩)) rfl ?_ ?_ ?_ (fun _ _ _ h => h) (Or.inl ⟨by rfl, ?_⟩) hS ?_; (· decide +kernel); (· decide +kernel); (· decide +kernel); (· (intro w' hS'; (try dsimp only at hS'); go_split_ands; go_simp))) | (refine wpAnyG_take (i := 4) (v := .slice none 0 0) rfl ?_ ?_ ?_ (fun _ _ _ h => h) (Or.inl ⟨by rfl, ?_⟩) hS ?_; (· decide +kernel); (· decide +kernel); (· decide +kernel); (· (intro w' hS'; (try dsimp only at hS'); go_split_ands; go_simp))) | (refine wpAnyG_take (i := 5) (v := .pointer (some ⟨AB, 0, none⟩)) rfl ?_ ?_ ?_ (fun _ _ _ h => h) (Or.inl ⟨by rfl, ?_⟩) hS ?_; (· decide +kernel); (· decide +kernel); (· decide +kernel); (· (intro w' hS'; (try dsimp only at hS'); go_split_ands; go_simp))) | (refine wpAnyG_take (i := 6) (v := .string ⟨#[90]⟩) rfl ?_ ?_ ?_ (fun _ _ _ h => h) (Or.inl ⟨by rfl, ?_⟩) hS ?_; (· decide +kernel); (· decide +kernel); (· decide +kernel); (· (intro w' hS'; (try dsimp only at hS'); go_split_ands; go_simp))))
                      refine wpAnyG_ready (rs := [7]) (by decide +kernel) (by simp) ?_
                      refine AllReadyG.cons rfl (fun K hK => ?_) AllReadyG.nil
                      go_simp
                      have b7 : Below V.heap.size V (V.alloc (.cells #[.string ⟨#[90]⟩] 9)) := (Below.refl _ _).alloc (Nat.le_refl _) _
                      have rd7 : Reads (V.alloc (.cells #[.string ⟨#[90]⟩] 9)) Any 1 (some ⟨V.heap.size, 0, none⟩) 1 [.string ⟨#[90]⟩] := Reads.new V _ 1 1 _ Any trivial rfl
                      refine hK _ _ (fun _ => MKK.out _ b7) ?_
                      clear hK K
                      refine wpAnyG_ready (rs := [8]) (by decide +kernel) (by simp) ?_
                      refine AllReadyG.cons rfl (fun K hK => ?_) AllReadyG.nil
                      refine step_app_str (V.alloc (.cells #[.string ⟨#[90]⟩] 9)) rfl (.tmp 177) (.tmp 180) rfl (World.ownsRow_nil _ (V.alloc (.cells #[.string ⟨#[90]⟩] 9)).heap.size _ _) rfl rd7 rfl (by intro u hu; simp at hu; subst hu; rfl) (by omega) (Nat.le_refl _) ?_
                      intro v' X8 hown' hg' hat'
                      obtain ⟨A5, c5, rfl, _, hc5⟩ := own_form hown'
                      have b8 : Below V.heap.size V X8 := below_next (below_grown hg') b7
                      have gr8 := BV.out.2.below b8
                      have oO : X8.cell? ⟨G, 2, none⟩ = some (.slice none 0 0) := gr8.g.cell 2
                      have oF := gr8.g.frozen 2
                      have lO := lt_of_cell oO
                      have hgl : G < V.heap.size := BV.out.2.g.lt
                      have H8 := Lib.hid (And.intro b8 (And.intro gr8 (And.intro hown' hgl)))
                      replace hS := MKK.out _ b8
                      refine hK _ _ (fun _ => hS) ?_
                      clear hK K hown' hg' hat' b8 gr8 hgl rd7 b7
                      repeat (first | (refine wpAnyG_take (i := 9) (v := .pointer (some ⟨G, 0, none⟩)) rfl ?_ ?_ ?_ (fun _ _ _ h => h) (Or.inl ⟨by rfl, ?_⟩) hS ?_; (· decide +kernel); (· decide +kernel); (· decide +kernel); (· (intro w' hS'; (try dsimp only at hS'); go_split_ands; go_simp))) | (refine wpAnyG_take (i := 10) (v := .pointer (some ⟨G, 2, none⟩)) rfl ?_ ?_ ?_ (fun _ _ _ h => h) (Or.inl ⟨by rfl, ?_⟩) hS ?_; (· decide +kernel); (· decide +kernel); (· decide +kernel); (· (intro w' hS'; (try dsimp only at hS'); go_split_ands; go_simp))))
                      refine wpAnyG_ready (rs := [11]) (by decide +kernel) (by simp) ?_
                      refine AllReadyG.cons rfl (fun K hK => ?_) AllReadyG.nil
                      go_simp
                      refine hK _ _ (fun h => absurd h (by omega)) ?_
                      clear hK K
                      refine wpAnyG_done (by decide +kernel) ?_ _
                      clear hS oO oF lO
                      go_wp2_with (fail)
                      refine ⟨.inr ⟨by go_num, ?_⟩, by simp [intOf]⟩
                      obtain ⟨b8, gr8, own8, hgl⟩ := H8.out
                      obtain ⟨q1, q2, q3⟩ := own_reads (by omega) own8
                      refine ⟨A5, c5, bs5, gr8.actsPut, q1, q2, ?_, ?_⟩
                      · exact (q3.keep (fun b hb _ => Below.heap_setCell X8 ⟨G, 2, none⟩ _ b (fun e => by
                          dsimp only at e hb
                          rw [World.size_alloc] at hb
                          omega))).imp (by omega) fun _ _ _ => trivial
                      · exact HBW.out _ (GrownIn.set (p := ⟨G, 2, none⟩) (H5.out.2.trans (GrownIn.of_below (own := fun _ => False) (below_next b8 BV.out.1)) (fun _ h => h.elim)) (.inl rfl) _)
                    · go_wp2_with (fail)
                      go_ret
                      obtain ⟨A5, c5, bs5, h1, h2, h3, h4, h5⟩ := HF.out
                      exact ⟨G, U, I, A5, c5, bs5, rfl, h1, h2, h3, h4, h5⟩
end Go.Proofs.YtaealapgebbnlaaGreatDoor
