/- Contracts of the laws' helpers towns and marked. -/
import Derived.Test.YtpnhmplinkakbaaMarkRest
set_option linter.unusedVariables false
namespace Go.Proofs.Ytpnhmplinkakbaa
open Go.RowKit Go.Mem Go.Maps

abbrev Four := Int × Int × Int × Int
def ddOf (x : Four) : Dd := ⟨x.1, x.2.1, x.2.2.1, x.2.2.2⟩
def I64F (x : Four) : Prop := I64 x.1 ∧ I64 x.2.1 ∧ I64 x.2.2.1 ∧ I64 x.2.2.2
def townC (coins : List Int) : List Int := 10 :: (coins.take 4).map fun n => restI n 50
def townD1 (n : Nat) (x : Four) : Dd := ⟨1 + restI x.1 3, restI x.2.1 n, restI x.2.2.1 n, 1 + restI x.2.2.2 12⟩
def townD (n : Nat) (l : List Four) : List Dd := (l.take 150).map (townD1 n)
theorem townC_len (coins : List Int) : (townC coins).length ≤ 5 ∧ 0 < (townC coins).length := by simp [townC]; omega
theorem townC_bd (coins : List Int) : ∀ x ∈ townC coins, 0 ≤ x ∧ x ≤ 1000000 := by
  intro x hx
  rcases List.mem_cons.1 hx with rfl | hx
  · omega
  · obtain ⟨y, _, rfl⟩ := List.mem_map.1 hx
    have := restI_bd y 50 (by omega)
    omega
theorem townC_next (coins : List Int) (k : Nat) (hk : k < coins.length) : townC (coins.take (k + 1)) = if k < 4 then townC (coins.take k) ++ [restI coins[k] 50] else townC (coins.take k) := by
  unfold townC
  rw [List.take_take, List.take_take]
  by_cases h : k < 4
  · rw [if_pos h, Nat.min_eq_right (by omega), Nat.min_eq_right (by omega), List.take_succ_eq_append_getElem hk, List.map_append]
    rfl
  · rw [if_neg h, Nat.min_eq_left (by omega), Nat.min_eq_left (by omega)]
theorem townD_next (n : Nat) (l : List Four) (k : Nat) (hk : k < l.length) : townD n (l.take (k + 1)) = if k < 150 then townD n (l.take k) ++ [townD1 n l[k]] else townD n (l.take k) := by
  unfold townD
  rw [List.take_take, List.take_take]
  by_cases h : k < 150
  · rw [if_pos h, Nat.min_eq_right (by omega), Nat.min_eq_right (by omega), List.take_succ_eq_append_getElem hk, List.map_append]
    rfl
  · rw [if_neg h, Nat.min_eq_left (by omega), Nat.min_eq_left (by omega)]
theorem townD_len (n : Nat) (l : List Four) : (townD n l).length ≤ 150 := by simp [townD]; omega
theorem info_deed : (Try.prog.info? 64).map (fun i => (i.zero, i.size, i.bytes)) = some (some (.agg #[.int .i64 0, .int .i64 0, .int .i64 0, .int .i64 0]), 4, 32) := by kernel_rfl
theorem step_app_deed (w : World) {ops : Array Oper} {o : Oper} {a : Act} {K : Act → World → Prop} {Q : Exit → Act → World → Prop} {E : Prop} (hgd : o.guard = none) (s x : Operand)
    (ho : o.op = .call { callee := .builtin .append, args := #[s, x], argTypes := #[54, 54] })
    {base : Nat} {v : Value} {n : Nat} {xs : List Value} (hown : w.ownsRow base 64 4 v n xs) (hs : a.eval s = v)
    {D : Nat → Prop} {A : Option Addr} {m : Nat} {news : List Value} (hr : Reads w D 4 A m news) {c : Nat} (hx : a.eval x = .slice A m c) (h1 : ∀ u ∈ news, u.oneCell' = true)
    (h63 : n + m ≤ 109951162777) (hbase : base ≤ w.heap.size)
    (h : ∀ v' w', w'.ownsRow base 64 4 v' (n + m) (xs ++ news) → w.grownBy w' v.ownBlock → (v'.ownBlock = v.ownBlock ∨ v'.ownBlock = some w.heap.size) → K (a.put o.dst v') w') :
    if Region.wanted o (yielded ops a.tmps) = true then Oper.wp Try.prog o a w K Q else E := by
  obtain ⟨i0, hi0, hz0, hz1, hz2⟩ := info_parts info_deed
  exact step_append_any w hgd s x _ ho base _ i0 _ 4 32 Try.underlying54 hi0 hz0 hz1 hz2 rfl (by omega) v n xs hs hown D A m c news hx hr h1 (by simp only [maxLen]; omega) (by omega) hbase h
theorem ddcs_snoc (l : List Dd) (d : Dd) : ddcs (l ++ [d]) = ddcs l ++ ddc d := by simp [ddcs]
theorem own_new (w : World) (cs : List Value) (e : TypeId) (base : Nat) (hb : base ≤ w.heap.size) (hc : cs.length ≤ maxLen) : (w.alloc (.cells cs.toArray e)).ownsRow base e 1 (.slice (some ⟨w.heap.size, 0, none⟩) cs.length cs.length) cs.length cs :=
  ⟨by simp, .inr ⟨w.heap.size, cs.length, cs.toArray, rfl, hb, heap_alloc_new w _, Nat.le_refl _, hc, by simp, by simp⟩⟩
def TownsPost (w : World) (coins : List Int) (l : List Four) (e : Ending) (w' : World) : Prop :=
  ∃ A1 c1 A2 c2, e = .returned (.tuple #[.slice A1 (townC coins).length c1, .slice A2 (townD (townC coins).length l).length c2, .int .i64 (townC coins).sum]) ∧
    w'.ownsRow w.heap.size 3 1 (.slice A1 (townC coins).length c1) (townC coins).length (nums (townC coins)) ∧
    w'.ownsRow w.heap.size 64 4 (.slice A2 (townD (townC coins).length l).length c2) (townD (townC coins).length l).length (ddcs (townD (townC coins).length l)) ∧ Below w.heap.size w w'
set_option maxRecDepth 100000 in
set_option maxHeartbeats 2000000 in
theorem towns_any (w : World) (A : Option Addr) (n c : Nat) (coins : List Int) (A2 : Option Addr) (m c2 : Nat) (l : List Four) (hn : n = coins.length) (hc : ∀ x ∈ coins, I64 x) (hnc : n ≤ c) (hcm : c ≤ maxLen) (hr : Reads w Any 1 A n (nums coins)) (hm : m = l.length) (hmc : m ≤ c2) (hc2 : c2 ≤ maxLen) (hrd : Reads w Any 4 A2 m (ddcs (l.map ddOf))) (hl : ∀ x ∈ l, I64F x) :
    Calls Try.prog 21 #[.slice A n c, .slice A2 m c2] w (TownsPost w coins l) := by
  have hn63 : n ≤ 9223372036854775807 := by unfold maxLen at hcm; omega
  have hm63 : m ≤ 9223372036854775807 := by unfold maxLen at hc2; omega
  have Hn := Lib.hid hn
  have Hm := Lib.hid hm
  have Hc := Lib.hid hc
  have Hl := Lib.hid hl
  have Hrd := Lib.hid hrd
  clear hn hm hc hl hrd
  go_enter Try.func21, Try.ntmps21
  go_wp2_with (fail)
  have hown0 : (w.alloc (.cells #[.int .i64 10] 3)).ownsRow w.heap.size 3 1 (.slice (some ⟨w.heap.size, 0, none⟩) 1 1) 1 (nums [10]) := own_new w [.int .i64 10] _ _ (Nat.le_refl _) (by simp [maxLen])
  have HO0 := Lib.hid hown0
  clear hown0
  go_loopw [7, 8, 17] (fun v7 v8 i wr => ∃ k A1 c1, k ≤ n ∧ i = .int .i64 (k : Nat) ∧ v7 = .slice A1 (townC (coins.take k)).length c1 ∧ v8 = .int .i64 (townC (coins.take k)).sum ∧ Hid (wr.ownsRow w.heap.size 3 1 (.slice A1 (townC (coins.take k)).length c1) (townC (coins.take k)).length (nums (townC (coins.take k))) ∧ Below w.heap.size w wr)) (fun _ _ i _ => n - (intOf i).toNat)
  case atStart => exact ⟨0, _, _, Nat.zero_le _, rfl, by simp [townC], by simp [townC], HO0.out, (Below.refl _ _).alloc (Nat.le_refl _) _⟩
  case round =>
    obtain ⟨k, A1, c1, hk, rfl, rfl, rfl, HK⟩ := hrel
    have hlen := townC_len (coins.take k)
    have hsum : 0 ≤ (townC (coins.take k)).sum ∧ (townC (coins.take k)).sum ≤ 10000000 := by
      have h1 := townC_bd (coins.take k)
      have : ∀ l : List Int, (∀ x ∈ l, 0 ≤ x ∧ x ≤ 1000000) → 0 ≤ l.sum ∧ l.sum ≤ 1000000 * (l.length : Int) := by
        intro l
        induction l with
        | nil => intro _; simp
        | cons x r ih =>
          intro h
          have h1 := ih fun y hy => h y (List.mem_cons_of_mem _ hy)
          have h2 := h x (by simp)
          simp only [List.sum_cons, List.length_cons]
          omega
      have := this _ h1
      omega
    by_cases hlt : k < n
    · have hkl : k < coins.length := by have := Hn.out; omega
      obtain ⟨b, off, u, rfl, _, hu, hcell⟩ := hr.at_ hlt
      rw [nums_at coins k hkl] at hu
      injection hu with hu
      subst hu
      have g0 := (Same.any (D := Any) HK.out.2).cell trivial hcell
      have lb := lt_of_cell g0
      have hnx := townC_next coins k hkl
      have hx := Hc.out _ (List.getElem_mem hkl)
      have RS := Lib.hid (fun W => rest_any coins[k] 50 W hx (by omega) (by omega))
      have hbd := restI_bd coins[k] 50 (by omega)
      generalize restI coins[k] 50 = q at RS hnx hbd
      generalize coins[k] = x at g0 RS
      have HNX := Lib.hid hnx
      generalize townC (coins.take k) = cs at HK hlen hsum HNX
      clear hnx hcell hx
      by_cases h4 : k < 4
      · go_wp2_with (first | (go_at_call 19; refine (RS.out _).mono ?_; rintro e w' ⟨rfl, rfl⟩) | (at_builtin; refine app_int _ rfl (.tmp 24) (.tmp 27) rfl (HK.out.1.alloc _) rfl (Reads.new (D := Any) _ [.int .i64 q] 1 1 _ trivial rfl) rfl (by simp [Value.oneCell']) (by omega) (by have := HK.out.2.size; simp; omega) ?_; intro v2 w2 hown2 hg2 hat2; obtain ⟨A9, c9, rfl, _⟩ := own_form hown2))
        have hb2 : Below w.heap.size w w2 := (HK.out.2.alloc HK.out.2.size _).grown hg2 (by have := HK.out.2.size; simp; omega) (fun b hb => (HK.out.1.lt b hb).1)
        have e1 : (cs ++ [q]).length = cs.length + 1 := by simp
        refine ⟨⟨k + 1, A9, c9, by omega, by go_num, by rw [HNX.out, if_pos h4, e1], by rw [HNX.out, if_pos h4, sum_app1], ?_⟩, by simp [intOf]; omega⟩
        rw [HNX.out, if_pos h4, e1, nums_append]
        exact ⟨hown2, hb2⟩
      · go_wp2_with (fail)
        exact ⟨⟨k + 1, A1, c1, by omega, by go_num, by rw [HNX.out, if_neg h4], by rw [HNX.out, if_neg h4], by rw [HNX.out, if_neg h4]; exact HK.out⟩, by simp [intOf]; omega⟩
    · obtain rfl : k = n := by omega
      have hall : coins.take k = coins := List.take_of_length_le (by have := Hn.out; omega)
      rw [hall] at HK hlen hsum ⊢
      have HC := Lib.hid (show townC coins = townC coins from rfl)
      obtain ⟨wo, hwo⟩ : ∃ wo, wo = wr := ⟨_, rfl⟩
      subst hwo
      obtain ⟨nc, hnc'⟩ : ∃ nc, nc = (townC coins).length := ⟨_, rfl⟩
      rw [← hnc'] at HK hlen ⊢
      have Hnc := Lib.hid hnc'
      clear hall hnc' HO0 hlt
      go_wp2_with (fail)
      go_loopw [11, 36] (fun v11 i wr => ∃ j A3 c3, j ≤ m ∧ i = .int .i64 (j : Nat) ∧ v11 = .slice A3 (townD nc (l.take j)).length c3 ∧ Hid (wr.ownsRow wo.heap.size 64 4 (.slice A3 (townD nc (l.take j)).length c3) (townD nc (l.take j)).length (ddcs (townD nc (l.take j))) ∧ Below wo.heap.size wo wr)) (fun _ i _ => m - (intOf i).toNat)
      case atStart => exact ⟨0, none, 0, Nat.zero_le _, rfl, by simp [townD], by simpa [townD, ddcs] using World.ownsRow_nil _ _ _ _, Below.refl _ _⟩
      case round =>
        obtain ⟨j, A3, c3, hj, rfl, rfl, HJ⟩ := hrel
        have hdl := townD_len nc (l.take j)
        by_cases hltj : j < m
        · have hjl : j < l.length := by have := Hm.out; omega
          obtain ⟨b, off, rfl, _, hcell⟩ := Hrd.out.2 (by omega)
          have hsm := Same.any (D := Any) (HK.out.2.trans (HJ.out.2.mono HK.out.2.size))
          have hat := fun (i : Nat) (hi : i < 4) (u : Value) (hu : (ddc (ddOf l[j]))[i]? = some u) => hsm.cell trivial (hcell (j * 4 + i) u (by rw [ddcs_at (l.map ddOf) j i (by simpa using hjl) hi, List.getElem_map]; exact hu))
          have hnx := townD_next nc l j hjl
          have hx := Hl.out _ (List.getElem_mem hjl)
          generalize l[j] = x at hat hnx hx
          obtain ⟨x0, x1, x2, x3⟩ := x
          obtain ⟨i0, i1, i2, i3⟩ := hx
          simp only at i0 i1 i2 i3
          have R0 := Lib.hid (fun W => rest_any x0 3 W i0 (by omega) (by omega))
          have R1 := Lib.hid (fun W => rest_any x1 nc W i1 (by omega) (by omega))
          have R2 := Lib.hid (fun W => rest_any x2 nc W i2 (by omega) (by omega))
          have R3 := Lib.hid (fun W => rest_any x3 12 W i3 (by omega) (by omega))
          have b0 := restI_bd x0 3 (by omega)
          have b3 := restI_bd x3 12 (by omega)
          have g0 := hat 0 (by omega) _ rfl
          have g1 := hat 1 (by omega) _ rfl
          have g2 := hat 2 (by omega) _ rfl
          have g3 := hat 3 (by omega) _ rfl
          simp only [Nat.add_zero, ← Nat.add_assoc, ddOf] at g0 g1 g2 g3
          have lb := lt_of_cell g0
          have hnx' : townD nc (l.take (j + 1)) = if j < 150 then townD nc (l.take j) ++ [⟨1 + restI x0 3, restI x1 nc, restI x2 nc, 1 + restI x3 12⟩] else townD nc (l.take j) := hnx
          generalize restI x0 3 = r0 at R0 b0 hnx'
          generalize restI x1 nc = r1 at R1 hnx'
          generalize restI x2 nc = r2 at R2 hnx'
          generalize restI x3 12 = r3 at R3 b3 hnx'
          have HNX := Lib.hid hnx'
          generalize townD nc (l.take j) = ds at HJ hdl HNX
          clear hnx hnx' hcell hsm hat i0 i1 i2 i3
          by_cases h150 : j < 150
          · go_upto_region 15 with (fail)
            obtain ⟨W, hW⟩ : ∃ W, W = wr.alloc (.cells #[.int .i64 x0, .int .i64 x1, .int .i64 x2, .int .i64 x3] 64) := ⟨_, rfl⟩
            have hD : Blk W wr.heap.size 64 [.int .i64 x0, .int .i64 x1, .int .i64 x2, .int .i64 x3] := by rw [hW]; exact Blk.new wr _ _
            have hbW : Below wr.heap.size wr W := by rw [hW]; exact (Below.refl _ _).alloc (Nat.le_refl _) _
            have hoW : W.ownsRow wo.heap.size 64 4 (.slice A3 ds.length c3) ds.length (ddcs ds) := own_keep HJ.out.1 fun b hb => hbW.block b (HJ.out.1.lt b hb).2
            have hbwW : Below wo.heap.size wo W := HJ.out.2.trans (hbW.mono HJ.out.2.size)
            have hne : (Value.slice A3 ds.length c3).ownBlock ≠ some wr.heap.size := fun e => by have := (HJ.out.1.lt _ e).2; omega
            rw [← hW]
            generalize wr.heap.size = D at hD hne ⊢
            have HoW := Lib.hid hoW
            have HbW := Lib.hid hbwW
            have HD := Lib.hid hD
            have Hne := Lib.hid hne
            have e0 := hD.cell 0
            have e1 := hD.cell 1
            have e2 := hD.cell 2
            have e3 := hD.cell 3
            simp only [List.getElem?_cons_zero, List.getElem?_cons_succ] at e0 e1 e2 e3
            have lD := hD.lt
            have k1 : IntKind.i64.wrap (1 + r0) = 1 + r0 := IntWalk.i64_in _ (by omega)
            have k3 : IntKind.i64.wrap (1 + r3) = 1 + r3 := IntWalk.i64_in _ (by omega)
            have hWs : wo.heap.size ≤ W.heap.size := hbwW.size
            clear hW hbW hoW hbwW hne hD g0 g1 g2 g3 lb
            go_region_held3 (fun w' => w'.cell? ⟨D, 0, none⟩ = some (.int .i64 x0) ∧ w'.cell? ⟨D, 1, none⟩ = some (.int .i64 x1) ∧ w'.cell? ⟨D, 2, none⟩ = some (.int .i64 x2) ∧ w'.cell? ⟨D, 3, none⟩ = some (.int .i64 x3))
              (first | exact ⟨hkp.cell 0, hkp.cell 1, hkp.cell 2, hkp.cell 3⟩ | go_keep)
              (first
                | (go_at_call 19; (with_reducible refine (R0.out _).mono ?_); rintro e w' ⟨rfl, rfl⟩)
                | (go_at_call 19; (with_reducible refine (R1.out _).mono ?_); rintro e w' ⟨rfl, rfl⟩)
                | (go_at_call 19; (with_reducible refine (R2.out _).mono ?_); rintro e w' ⟨rfl, rfl⟩)
                | (go_at_call 19; (with_reducible refine (R3.out _).mono ?_); rintro e w' ⟨rfl, rfl⟩)
                | (refine step_app_deed _ rfl (.tmp 43) (.tmp 63) (by rfl) (base := wo.heap.size) (v := .slice A3 ds.length c3) (n := ds.length) (xs := ddcs ds) (by exact HoW.out.alloc (.cells #[.int .i64 (1 + r0), .int .i64 r1, .int .i64 r2, .int .i64 (1 + r3)] 64)) rfl (D := Any) (A := some ⟨W.heap.size, 0, none⟩) (m := 1) (news := [.int .i64 (1 + r0), .int .i64 r1, .int .i64 r2, .int .i64 (1 + r3)]) (c := 1) (by exact Reads.new (D := Any) W [.int .i64 (1 + r0), .int .i64 r1, .int .i64 r2, .int .i64 (1 + r3)] 4 1 64 trivial rfl) rfl (by simp [Value.oneCell']) (by omega) (by first | omega | (simp; omega)) ?_; intro v2 w2 hown2 hg2 hat2; obtain ⟨A9, c9, rfl, _⟩ := own_form hown2; have hgw := grown_of_allocd hg2; have hkp := HD.out.grown hgw (fun e => Hne.out e.symm)))
            go_wp2_with (fail)
            have hb2 : Below wo.heap.size wo w2 := HbW.out.grown hgw hWs (fun k hk => (HoW.out.lt k hk).1)
            have e1 : (ds ++ [(⟨1 + r0, r1, r2, 1 + r3⟩ : Dd)]).length = ds.length + 1 := by simp
            refine ⟨⟨j + 1, A9, c9, by omega, by go_num, by rw [HNX.out, if_pos h150, e1], ?_⟩, by simp [intOf]; omega⟩
            rw [HNX.out, if_pos h150, e1, ddcs_snoc]
            exact ⟨hown2, hb2⟩
          · go_wp2_with (fail)
            refine ⟨⟨j + 1, A3, c3, by omega, by go_num, by rw [HNX.out, if_neg h150], ?_⟩, by simp [intOf]; omega⟩
            rw [HNX.out, if_neg h150]
            exact ⟨own_keep HJ.out.1 fun b hb => Below.heap_alloc _ _ b (HJ.out.1.lt b hb).2, HJ.out.2.alloc HJ.out.2.size _⟩
        · obtain rfl : j = m := by omega
          have hall : l.take j = l := List.take_of_length_le (by have := Hm.out; omega)
          rw [hall] at HJ hdl ⊢
          have hk1 := own_keep HK.out.1 fun b hb => HJ.out.2.block b (HK.out.1.lt b hb).2
          have hk2 := own_low HJ.out.1 HK.out.2.size
          have hk3 := HK.out.2.trans (HJ.out.2.mono HK.out.2.size)
          have Hk1 := Lib.hid hk1
          have Hk2 := Lib.hid hk2
          have Hk3 := Lib.hid hk3
          clear hall HK HJ hk1 hk2 hk3 hr
          go_wp2_with (fail)
          go_ret3
          have e := Hnc.out
          subst e
          exact ⟨A1, c1, A3, c3, rfl, Hk1.out, Hk2.out, Hk3.out⟩
end Go.Proofs.Ytpnhmplinkakbaa
