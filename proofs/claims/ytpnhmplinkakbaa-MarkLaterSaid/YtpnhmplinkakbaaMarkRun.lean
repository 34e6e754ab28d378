/- Contract of mark.Run. -/
import Derived.Test.YtpnhmplinkakbaaTownShot
import Derived.Test.YtpnhmplinkakbaaMarkEnd
set_option linter.unusedVariables false
namespace Go.Proofs.Ytpnhmplinkakbaa
open Go.RowKit Go.Mem Go.Maps

theorem wsum_ge {f : Nat × Nat → List Int → Int} (hf : ∀ k c, 0 ≤ f k c) : ∀ (ws : Ways) (p : (Nat × Nat) × List Int), p ∈ ws → f p.1 p.2 ≤ wsum f ws
  | [], p, h => by simp at h
  | q :: r, p, h => by
    have hr : 0 ≤ wsum f r := by
      clear h
      induction r with
      | nil => simp [wsum]
      | cons x r ih =>
        have := hf x.1 x.2
        simp only [wsum, List.map_cons, List.sum_cons] at ih ⊢
        omega
    have hq := hf q.1 q.2
    have e : wsum f (q :: r) = f q.1 q.2 + wsum f r := by simp [wsum]
    rw [e]
    rcases List.mem_cons.1 h with rfl | h
    · omega
    · have := wsum_ge hf r p h
      omega
theorem wsum_nn {f : Nat × Nat → List Int → Int} (hf : ∀ k c, 0 ≤ f k c) (ws : Ways) : 0 ≤ wsum f ws := by
  induction ws with
  | nil => simp [wsum]
  | cons x r ih =>
    have := hf x.1 x.2
    simp only [wsum, List.map_cons, List.sum_cons] at ih ⊢
    omega
theorem sum_ge : ∀ (l : List Int), (∀ i, 0 ≤ l.getD i 0) → 0 ≤ l.sum ∧ ∀ i, l.getD i 0 ≤ l.sum
  | [], _ => ⟨by simp, fun i => by simp⟩
  | x :: r, h => by
    obtain ⟨h1, h2⟩ := sum_ge r (fun i => by have := h (i + 1); simpa using this)
    have h0 : 0 ≤ x := by have := h 0; simpa using this
    refine ⟨by rw [List.sum_cons]; omega, fun i => ?_⟩
    cases i with
    | zero => simp; omega
    | succ i =>
      have := h2 i
      rw [List.sum_cons, List.getD_cons_succ]
      omega
theorem posum_ge : ∀ (c : List Int) (x : Int), x ∈ c → x ≤ posum c
  | [], x, h => by simp at h
  | y :: r, x, h => by
    rw [posum_cons]
    have := posum_nn r
    rcases List.mem_cons.1 h with rfl | h
    · omega
    · have := posum_ge r x h
      omega
theorem chan_out {n : Nat} {sum : Int} {k : Nat} {s : Tn} (h : Inv n sum k s) {a b : Nat} (hn : ¬ (a < n ∧ b < n ∧ a ≠ b)) : chan s.ways a b = [] := by
  unfold chan
  cases hg : mget s.ways (a, b) with
  | none => rfl
  | some c => exact absurd (h.ky _ (mget_mem hg)) hn
theorem chan_len {n : Nat} {sum : Int} {k : Nat} {s : Tn} (h : Inv n sum k s) (a b : Nat) : (chan s.ways a b).length ≤ k + 1 := by
  by_cases hv : a < n ∧ b < n ∧ a ≠ b
  · obtain ⟨ha, hb, hab⟩ := hv
    have h1 := h.rl a b ha hb hab
    have h2 := h.cnt a b ha hb hab
    have h3 : (chan s.ways a b).length = (chan s.ways a b).countP (fun x => !decide (x = -1)) + (chan s.ways a b).count (-1) := by
      have := List.length_eq_countP_add_countP (fun x => !decide (x = -1)) (l := chan s.ways a b)
      rw [this]
      congr 1
      unfold List.count
      apply List.countP_congr
      intro x _
      simp
    have h4 : (chan s.ways a b).count (-1) ≤ 1 := by rw [h2]; split <;> omega
    omega
  · rw [chan_out h hv]; simp
theorem fine_of_inv {n : Nat} {sum : Int} {k : Nat} {s : Tn} (h : Inv n sum k s) (hn : n ≤ 8) (hk : k ≤ 900) (hs : sum ≤ 1000000000000) : Fine n s := by
  have hw := wsum_nn (f := fun _ c => posum c) (fun _ c => posum_nn c) s.ways
  obtain ⟨c1, c2⟩ := sum_ge s.coins h.c0
  have hsm := h.sm
  refine ⟨h.lc, h.ls, hn, fun i hi => (h.shp i hi).pe, fun i => ⟨h.c0 i, by have : co s i ≤ s.coins.sum := c2 i; omega⟩, fun a b => by have := chan_len h a b; omega, fun a b x hx => ?_⟩
  rcases h.el a b x hx with e | e
  · exact .inl e
  · refine .inr ⟨e, ?_⟩
    have h1 := posum_ge _ _ hx
    unfold chan at hx h1
    cases hg : mget s.ways (a, b) with
    | none => rw [hg] at hx; simp at hx
    | some c =>
      rw [hg] at h1
      have h2 := wsum_ge (f := fun _ c => posum c) (fun _ c => posum_nn c) s.ways _ (mget_mem hg)
      simp only [Option.getD_some] at h1
      have h3 : x ≤ posum c := h1
      have h4 : posum c ≤ wsum (fun _ c => posum c) s.ways := h2
      omega
theorem tot_of_inv {n : Nat} {sum : Int} {k : Nat} {s : Tn} (h : Inv n sum k s) (hs : sum ≤ 1000000000000) : wsum (fun _ c => posum c) s.ways ≤ 1000000000000 := by
  obtain ⟨c1, _⟩ := sum_ge s.coins h.c0
  have := h.sm
  omega

set_option maxRecDepth 100000 in
theorem run1_no (w : World) (x : Int) (h0 : 0 ≤ x) (h1 : x ≤ 1000000) :
    Calls Try.prog 37 #[.int .i64 x] w fun e w' => e = .returned (.bool false) ∧ w = w' := by
  have d0 : decide (x < 0) = false := by simp; omega
  have d1 : decide (1000000 < x) = false := by simp; omega
  go_enter Try.func37, Try.ntmps37
  go_wp2_with (fail)
  go_ret
  exact ⟨by simp, rfl⟩
set_option maxRecDepth 100000 in
set_option maxHeartbeats 1000000 in
theorem indexFunc_no (w : World) (A : Option Addr) (n c : Nat) (l : List Int) (hn : n = l.length) (hn8 : n ≤ 8) (hr : Reads w Any 1 A n (nums l)) (hl : ∀ x ∈ l, 0 ≤ x ∧ x ≤ 1000000) :
    Calls Try.prog 42 #[.slice A n c, .func (.func 37) #[] #[]] w fun e w' => e = .returned (.int .i64 (-1)) ∧ w = w' := by
  have Hn := Lib.hid hn
  have Hl := Lib.hid hl
  clear hn hl
  go_enter Try.func42, Try.ntmps42
  go_wp2_with (fail)
  go_loop [8] (fun v8 => ∃ k : Nat, k ≤ n ∧ v8 = .int .i64 k) (fun v8 => n - (intOf v8).toNat)
  case atStart => exact ⟨0, Nat.zero_le _, rfl⟩
  case round =>
    obtain ⟨k, hk, rfl⟩ := hrel
    by_cases hlt : k < n
    · obtain ⟨b, off, u, rfl, hD, hu, hc⟩ := hr.at_ hlt
      have hkl : k < l.length := by have := Hn.out; omega
      rw [nums_at l k hkl] at hu
      injection hu with hu
      subst hu
      obtain ⟨b0, b1⟩ := Hl.out _ (List.getElem_mem hkl)
      generalize l[k] = y at hc b0 b1
      have R1 := Lib.hid (run1_no w y b0 b1)
      clear hr b0 b1
      go_wp2_with (fail)
      refine R1.out.mono ?_
      rintro e w' ⟨rfl, rfl⟩
      go_wp2_with (fail)
      go_round
      case rel => exact ⟨k + 1, by omega, by go_num⟩
      case measure => simp [intOf]; omega
    · clear hr
      go_wp2_with (fail)
      go_ret
      exact ⟨rfl, rfl⟩
set_option maxRecDepth 100000 in
theorem containsFunc_no (w : World) (A : Option Addr) (n c : Nat) (l : List Int) (hn : n = l.length) (hn8 : n ≤ 8) (hr : Reads w Any 1 A n (nums l)) (hl : ∀ x ∈ l, 0 ≤ x ∧ x ≤ 1000000) :
    Calls Try.prog 32 #[.slice A n c, .func (.func 37) #[] #[]] w fun e w' => e = .returned (.bool false) ∧ w = w' := by
  have IF := Lib.hid (indexFunc_no w A n c l hn hn8 hr hl)
  clear hn hr hl
  go_enter Try.func32, Try.ntmps32
  go_wp2_with (fail)
  refine IF.out.mono ?_
  rintro e w' ⟨rfl, rfl⟩
  go_wp2_with (fail)
  go_ret
  exact ⟨rfl, rfl⟩

/-- the cells of deeds -/
def ddc (d : Dd) : List Value := [.int .i64 d.kind, .int .i64 d.from_, .int .i64 d.to_, .int .i64 d.n]
def ddcs (l : List Dd) : List Value := (l.map ddc).flatten
theorem ddcs_len (l : List Dd) : (ddcs l).length = l.length * 4 := by
  induction l with
  | nil => rfl
  | cons d r ih =>
    simp only [ddcs, List.map_cons, List.flatten_cons, List.length_append] at ih ⊢
    rw [ih]
    simp [ddc]
    omega
theorem ddcs_at (l : List Dd) (k j : Nat) (hk : k < l.length) (hj : j < 4) : (ddcs l)[k * 4 + j]? = (ddc l[k])[j]? :=
  flatten_at (size := 4) (vss := l.map ddc) (fun c hc => by obtain ⟨d, _, rfl⟩ := List.mem_map.1 hc; rfl) (k := k) (c := ddc l[k]) (by rw [List.getElem?_map, List.getElem?_eq_getElem hk]; rfl) j hj
def RunPost (w : World) (x : Sh) (e : Ending) (w' : World) : Prop := ∃ cs, e = .returned (.tuple #[.agg cs.toArray, .int .i64 0]) ∧ ShCells w' (fun b => w.heap.size ≤ b) cs x ∧ Below w.heap.size w w'
theorem run_snoc (s : Tn) (l : List Dd) (k : Nat) (h : k < l.length) : runF s (l.take (k + 1)) = doF (runF s (l.take k)) l[k] := by
  rw [List.take_succ_eq_append_getElem h, run_app]
  rfl
theorem pays_take (l : List Dd) (k : Nat) : paysL (l.take k) ≤ paysL l := by
  have h := pays_app (l.take k) (l.drop k)
  rw [List.take_append_drop] at h
  omega
theorem ShCells.out {w : World} {D : Nat → Prop} {cs : List Value} {x : Sh} (h : ShCells w D cs x) : ∃ A1 c1 A2 c2 A3 c3, cs = [.bool x.done, .slice A1 x.states.length c1, .slice A2 x.ways.length c2, .slice A3 x.now.length c3, .int .i64 x.left] := by
  obtain ⟨A1, c1, A2, c2, vss, A3, c3, e, _⟩ := h
  exact ⟨A1, c1, A2, c2, A3, c3, e⟩
theorem TownAt.below {w w' : World} {B T : Nat} {col : Nat → Col} {s : Tn} (h : TownAt w B T col s) (hb : Below w.heap.size w w') (hB : B ≤ w.heap.size) : ∃ col', TownAt w' B T col' s := by
  obtain ⟨C, cC, curC, S, cS, curS, m, l, h⟩ := h
  exact ⟨_, _, _, _, _, _, _, _, _, h.below hb hB⟩

set_option maxRecDepth 100000 in
set_option maxHeartbeats 2000000 in
theorem mrun_any (w : World) (A : Option Addr) (n c : Nat) (coins : List Int) (A2 : Option Addr) (m c2 : Nat) (ds : List Dd) (hn : n = coins.length) (hn8 : n ≤ 8) (hn0 : 0 < n) (hc : ∀ x ∈ coins, 0 ≤ x ∧ x ≤ 1000000) (hr : Reads w Any 1 A n (nums coins)) (hm : m = ds.length) (hm4 : m ≤ 400) (hrd : Reads w Any 4 A2 m (ddcs ds)) (hdn : ∀ d ∈ ds, d.n ≤ 1000000000000 ∧ -1000000000000 ≤ d.n) (hp : paysL ds < 200) :
    Calls Try.prog 22 #[.slice A n c, .slice A2 m c2] w (RunPost w (shotF (runF (newF coins) ds))) := by
  have hi0 := inv_new coins (fun x hx => (hc x hx).1)
  have hsum : coins.sum ≤ 1000000000000 := by
    have : ∀ l : List Int, (∀ x ∈ l, 0 ≤ x ∧ x ≤ 1000000) → l.sum ≤ 1000000 * (l.length : Int) := by
      intro l
      induction l with
      | nil => intro _; simp
      | cons x r ih =>
        intro h
        have h1 := ih fun y hy => h y (List.mem_cons_of_mem _ hy)
        have h2 := (h x (by simp)).2
        simp only [List.sum_cons, List.length_cons]
        omega
    have := this coins hc
    omega
  have hinv : ∀ k, Inv n coins.sum (0 + paysL (ds.take k)) (runF (newF coins) (ds.take k)) := fun k => by
    rw [hn]
    exact (inv_run (ds.take k) hi0.1 hi0.2 (by have := pays_take ds k; omega)).1
  have hfine : ∀ k, Fine n (runF (newF coins) (ds.take k)) := fun k => fine_of_inv (hinv k) hn8 (by have := pays_take ds k; omega) hsum
  have Hinv := Lib.hid hinv
  have Hfine := Lib.hid hfine
  have Hsum := Lib.hid hsum
  obtain ⟨W0, hW0⟩ : ∃ W0, W0 = w.alloc (.cells #[.bool false, .slice none 0 0, .slice none 0 0, .slice none 0 0, .int .i64 0] 59) := ⟨_, rfl⟩
  have hZ : Blk W0 w.heap.size 59 [.bool false, .slice none 0 0, .slice none 0 0, .slice none 0 0, .int .i64 0] := by rw [hW0]; exact Blk.new w _ _
  have hb0 : Below w.heap.size w W0 := by rw [hW0]; exact (Below.refl _ _).alloc (Nat.le_refl _) _
  have hs0 : W0.heap.size = w.heap.size + 1 := by rw [hW0]; simp
  have CF := Lib.hid (containsFunc_no W0 A n c coins hn hn8 (hr.keep (Same.any hb0)) hc)
  have NW := Lib.hid (newWorld_any W0 A n c coins hn hn8 hn0 (hr.keep (Same.any hb0)))
  have Hrd := Lib.hid (hrd.keep (Same.any (D := Any) hb0))
  have HW := Lib.hid hW0
  have Hm := Lib.hid hm
  have Hdn := Lib.hid hdn
  have HZ := Lib.hid hZ
  have Hb0 := Lib.hid hb0
  have Hs0 := Lib.hid hs0
  clear hi0 hinv hfine hsum hW0 hZ hb0 hs0 hr hrd hn hc hm hdn hp
  go_enter Try.func22, Try.ntmps22
  go_wp2_with (fail)
  rw [← HW.out]
  refine CF.out.mono ?_
  rintro e w1 ⟨rfl, rfl⟩
  go_wp2_with (fail)
  refine NW.out.mono ?_
  rintro e w2 ⟨T, col, rfl, ht, hb2⟩
  go_wp2_with (fail)
  obtain ⟨B, hB⟩ : ∃ B, B = W0.heap.size := ⟨_, rfl⟩
  rw [← hB] at ht
  have HB := Lib.hid hB
  have HT := Lib.hid ht
  have H2 := Lib.hid hb2
  clear hB ht hb2 CF NW
  go_loopw [25] (fun i wr => ∃ k col', k ≤ m ∧ i = .int .i64 (k : Nat) ∧ Hid (TownAt wr B T col' (runF (newF coins) (ds.take k)) ∧ Below W0.heap.size W0 wr)) (fun i _ => m - (intOf i).toNat)
  case atStart => exact ⟨0, col, Nat.zero_le _, rfl, HT.out, H2.out⟩
  case round =>
    obtain ⟨k, col', hk, rfl, HK⟩ := hrel
    have hBr : B ≤ wr.heap.size := by have := HK.out.2.size; have := HB.out; omega
    by_cases hlt : k < m
    · have hkl : k < ds.length := by have := Hm.out; omega
      obtain ⟨b, off, rfl, _, hcell⟩ := Hrd.out.2 (by omega)
      have hs := Same.any (D := Any) HK.out.2
      have hat := fun (j : Nat) (hj : j < 4) (u : Value) (hu : (ddc ds[k])[j]? = some u) => hs.cell trivial (hcell (k * 4 + j) u (by rw [ddcs_at ds k j hkl hj]; exact hu))
      have hdk := Hdn.out _ (List.getElem_mem hkl)
      have HRN := Lib.hid (run_snoc (newF coins) ds k hkl)
      generalize ds[k] = d at hat hdk HRN
      obtain ⟨kd, fr, tt, nn⟩ := d
      have g0 := hat 0 (by omega) _ rfl
      have g1 := hat 1 (by omega) _ rfl
      have g2 := hat 2 (by omega) _ rfl
      have g3 := hat 3 (by omega) _ rfl
      simp only [Nat.add_zero, ← Nat.add_assoc] at g0 g1 g2 g3
      have lb := lt_of_cell g0
      have hW' : Below wr.heap.size wr (wr.alloc (.cells #[.int .i64 kd, .int .i64 fr, .int .i64 tt, .int .i64 nn] 64)) := (Below.refl _ _).alloc (Nat.le_refl _) _
      obtain ⟨colA, hA⟩ := HK.out.1.below hW' hBr
      have DO := Lib.hid (do_any _ B T colA _ n ⟨kd, fr, tt, nn⟩ hA (Nat.le_trans hBr hW'.size) (Hfine.out k) hdk)
      have HBl := Lib.hid (HK.out.2.trans (hW'.mono HK.out.2.size))
      clear hcell hs hat hdk hA hW'
      simp only [deedV] at DO
      go_wp2_with (fail)
      refine DO.out.mono ?_
      rintro e w3 ⟨col3, rfl, h3, hg3⟩
      have hB3 : Below W0.heap.size W0 w3 := Below.of_in HBl.out hg3 (fun b hb => by have := HB.out; omega) HBl.out.size
      go_wp2_with (fail)
      exact ⟨⟨k + 1, col3, by omega, by go_num, by rw [HRN.out]; exact h3, hB3⟩, by simp [intOf]; omega⟩
    · obtain rfl : k = m := by omega
      have hall : ds.take k = ds := List.take_of_length_le (by have := Hm.out; omega)
      have hk2 := HK.out
      have hi := Hinv.out k
      have hf := Hfine.out k
      rw [hall] at hk2 hi hf
      have SH := Lib.hid (shot_any wr B T col' _ n hk2.1 hf hi.nd (tot_of_inv hi Hsum.out))
      have HK2 := Lib.hid hk2.2
      clear hall hk2 hi hf HK
      generalize hX : shotF (runF (newF coins) ds) = X at SH ⊢
      have HX := Lib.hid hX
      clear hX
      go_wp2_with (fail)
      refine SH.out.mono ?_
      rintro e w4 ⟨cs, rfl, hcs, hb4⟩
      obtain ⟨A5, c5, A6, c6, A7, c7, rfl⟩ := hcs.out
      have hZ4 := (HZ.out.below HK2.out HZ.out.lt).below hb4 (by have := (HZ.out.below HK2.out HZ.out.lt).lt; exact this)
      have hw4 : Below w.heap.size w w4 := (Hb0.out.trans (HK2.out.mono Hb0.out.size)).trans (hb4.mono (by have := Hb0.out.size; have := HK2.out.size; omega))
      have z0 := hZ4.cell 0
      have z1 := hZ4.cell 1
      have z2 := hZ4.cell 2
      have z3 := hZ4.cell 3
      have z4 := hZ4.cell 4
      simp only [List.getElem?_cons_zero, List.getElem?_cons_succ] at z0 z1 z2 z3 z4
      have fz0 := hZ4.frozen 0
      have fz1 := hZ4.frozen 1
      have fz2 := hZ4.frozen 2
      have fz3 := hZ4.frozen 3
      have fz4 := hZ4.frozen 4
      have lz := hZ4.lt
      have hq := setRow_blk hZ4 [.bool X.done, .slice A5 X.states.length c5, .slice A6 X.ways.length c6, .slice A7 X.now.length c7, .int .i64 X.left] rfl
      have hbq := setRow_below (Nat.le_refl w.heap.size) [.bool X.done, .slice A5 X.states.length c5, .slice A6 X.ways.length c6, .slice A7 X.now.length c7, .int .i64 X.left] w4 0 hw4
      have hvq := ShCells.stable.imp (ShCells.stable.keep (ShCells.stable.imp hcs (D' := fun b => w.heap.size < b) fun b hb _ => by have := Hb0.out.size; have := HK2.out.size; omega) (setRow_same (g := w.heap.size) (by omega) [.bool X.done, .slice A5 X.states.length c5, .slice A6 X.ways.length c6, .slice A7 X.now.length c7, .int .i64 X.left] w4 0)) (D' := fun b => w.heap.size ≤ b) fun b hb _ => by omega
      simp only [setRow, Nat.reduceAdd] at hq hbq hvq
      have Hq := Lib.hid hq
      have Hbq := Lib.hid hbq
      have Hvq := Lib.hid hvq
      clear hq hbq hvq hcs hZ4 hw4 hb4
      go_wp2_with (fail)
      refine ret_blk_tmp rfl rfl Hq.out Try.underlying59 (by kernel_rfl) rfl ?_
      rw [HX.out]
      exact ⟨_, rfl, Hvq.out, Hbq.out⟩
end Go.Proofs.Ytpnhmplinkakbaa
