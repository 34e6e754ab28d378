/- Contract of the laws' helper harbour. -/
import Derived.Test.YtckkelppdeampaaHarbRun0
import Derived.Test.YtckkelppdeampaaRst
import Derived.Deep.CutBlock
import Derived.Deep.RegionHeld3
import Derived.Outline
set_option linter.unusedVariables false
namespace Go.Proofs.Ytckkelppdeampaa
open Go.RowKit Go.Mem Go.Mv Go.Maps
abbrev Fv := Int × Int × Int × Int × Int
def fivc (d : Fv) : List Value := [.int .i64 d.1, .int .i64 d.2.1, .int .i64 d.2.2.1, .int .i64 d.2.2.2.1, .int .i64 d.2.2.2.2]
def fivcs (l : List Fv) : List Value := (l.map fivc).flatten
def I64V (x : Fv) : Prop := I64 x.1 ∧ I64 x.2.1 ∧ I64 x.2.2.1 ∧ I64 x.2.2.2.1 ∧ I64 x.2.2.2.2
def rs (n many : Int) : Nat := (restI n many).toNat
theorem rs_eq (n many : Int) (h : 0 < many) : restI n many = ((rs n many : Nat) : Int) := by
  have := (restI_bd n many h).1
  unfold rs
  omega
theorem rs_lt (n : Int) (many : Nat) (h : 0 < many) : rs n many < many := by
  have := restI_bd n many (by omega)
  unfold rs
  omega
theorem rs_lt3 (n : Int) : rs n 3 < 3 := by
  have := restI_bd n 3 (by omega)
  unfold rs
  omega
def ndF (x : Int) : Nat := 1 + rs x 3
def whereF (nd : Nat) (l : List Int) : List Nat := 1 :: (l.take 2).map fun a => 1 + rs a nd
def deedF (nd W i : Nat) (x : Fv) : Dv := ⟨1 + rs x.1 3, 1 + rs x.2.1 nd, 1 + rs x.2.2.1 nd, rs x.2.2.2.1 W, i⟩
def deedsF (nd W many : Nat) (l : List Fv) : List Dv := (l.take many).mapIdx (deedF nd W)
theorem ndF_bd (x : Int) : 1 ≤ ndF x ∧ ndF x ≤ 3 := by
  have := rs_lt3 x
  unfold ndF
  omega
theorem whereF_len (nd : Nat) (l : List Int) : (whereF nd l).length ≤ 3 ∧ 0 < (whereF nd l).length := by
  simp [whereF]
  omega
theorem whereF_bd (nd : Nat) (hn : 0 < nd) (l : List Int) : ∀ x ∈ whereF nd l, 1 ≤ x ∧ x ≤ nd := by
  intro x hx
  rcases List.mem_cons.1 hx with rfl | hx
  · omega
  · obtain ⟨y, _, rfl⟩ := List.mem_map.1 hx
    have := rs_lt y nd hn
    omega
theorem whereF_next (nd : Nat) (l : List Int) (k : Nat) (hk : k < l.length) : whereF nd (l.take (k + 1)) = if k < 2 then whereF nd (l.take k) ++ [1 + rs l[k] nd] else whereF nd (l.take k) := by
  unfold whereF
  rw [List.take_take, List.take_take]
  by_cases h : k < 2
  · rw [if_pos h, Nat.min_eq_right (by omega), Nat.min_eq_right (by omega), List.take_succ_eq_append_getElem hk, List.map_append]
    rfl
  · rw [if_neg h, Nat.min_eq_left (by omega), Nat.min_eq_left (by omega)]
theorem deedsF_len (nd W many : Nat) (l : List Fv) : (deedsF nd W many l).length ≤ many := by simp [deedsF]; omega
theorem deedsF_next (nd W many : Nat) (l : List Fv) (k : Nat) (hk : k < l.length) : deedsF nd W many (l.take (k + 1)) = if k < many then deedsF nd W many (l.take k) ++ [deedF nd W k l[k]] else deedsF nd W many (l.take k) := by
  unfold deedsF
  rw [List.take_take, List.take_take]
  by_cases h : k < many
  · rw [if_pos h, Nat.min_eq_right (by omega), Nat.min_eq_right (by omega), List.take_succ_eq_append_getElem hk, List.mapIdx_concat]
    congr 3
    simp
    omega
  · rw [if_neg h, Nat.min_eq_left (by omega), Nat.min_eq_left (by omega)]
theorem deedsF_ok (nd W many : Nat) (hn : 0 < nd) (hW : 0 < W) (l : List Fv) : ∀ d ∈ deedsF nd W many l, DOk nd W d ∧ 1 ≤ d.kind := by
  intro d hd
  obtain ⟨i, hi, rfl⟩ := List.mem_mapIdx.1 hd
  generalize (l.take many)[i] = x
  have h1 := rs_lt3 x.1
  have h2 := rs_lt x.2.1 nd hn
  have h3 := rs_lt x.2.2.1 nd hn
  have h4 := rs_lt x.2.2.2.1 W hW
  unfold deedF DOk
  dsimp only
  refine ⟨⟨by omega, by omega, by omega, h4, fun _ => by omega, fun _ => by omega⟩, by omega⟩
theorem grown_of_allocd {w w2 : World} {o : Obj} {row : Option Nat} (h : ((w.alloc o).drew).grownBy w2 row) : w.grownBy w2 row :=
  ⟨h.os, h.tape, h.output, Nat.le_trans (by simp) h.size, fun k hk hne => (h.block k (by simp; omega) hne).trans (Below.heap_alloc w o k hk)⟩
theorem info_mdeed : (Try.prog.info? 35).map (fun i => (i.zero, i.size, i.bytes)) = some (some (.agg #[.int .i64 0, .int .i64 0, .int .i64 0, .int .i64 0, .int .i64 0]), 5, 40) := by kernel_rfl
theorem step_app_mdeed (w : World) {ops : Array Oper} {o : Oper} {a : Act} {K : Act → World → Prop} {Q : Exit → Act → World → Prop} {E : Prop} (hgd : o.guard = none) (s x : Operand)
    (ho : o.op = .call { callee := .builtin .append, args := #[s, x], argTypes := #[23, 23] })
    {base : Nat} {v : Value} {n : Nat} {xs : List Value} (hown : w.ownsRow base 35 5 v n xs) (hs : a.eval s = v)
    {D : Nat → Prop} {A : Option Addr} {m : Nat} {news : List Value} (hr : Reads w D 5 A m news) {c : Nat} (hx : a.eval x = .slice A m c) (h1 : ∀ u ∈ news, u.oneCell' = true)
    (h63 : n + m ≤ 100000000) (hbase : base ≤ w.heap.size)
    (h : ∀ v' w', w'.ownsRow base 35 5 v' (n + m) (xs ++ news) → w.grownBy w' v.ownBlock → (v'.ownBlock = v.ownBlock ∨ v'.ownBlock = some w.heap.size) → K (a.put o.dst v') w') :
    if Region.wanted o (yielded ops a.tmps) = true then Oper.wp Try.prog o a w K Q else E := by
  obtain ⟨i0, hi0, hz0, hz1, hz2⟩ := info_parts info_mdeed
  exact step_append_any w hgd s x _ ho base _ i0 _ 5 40 Try.underlying23 hi0 hz0 hz1 hz2 rfl (by omega) v n xs hs hown D A m c news hx hr h1 (by simp only [maxLen]; omega) (by omega) hbase h
theorem dvcs_snoc (l : List Dv) (d : Dv) : dvcs (l ++ [d]) = dvcs l ++ dvc d := by simp [dvcs]
theorem natv_snoc (l : List Nat) (x : Nat) : natv (l ++ [x]) = natv l ++ [.int .i64 (x : Nat)] := by simp [natv]
theorem fivcs_at (l : List Fv) (k j : Nat) (hk : k < l.length) (hj : j < 5) : (fivcs l)[k * 5 + j]? = (fivc l[k])[j]? :=
  flatten_at (size := 5) (vss := l.map fivc) (fun c hc => by obtain ⟨d, _, rfl⟩ := List.mem_map.1 hc; rfl) (k := k) (c := fivc l[k]) (by rw [List.getElem?_map, List.getElem?_eq_getElem hk]; rfl) j hj
theorem own_new (w : World) (cs : List Value) (e : TypeId) (base : Nat) (hb : base ≤ w.heap.size) (hc : cs.length ≤ maxLen) : (w.alloc (.cells cs.toArray e)).ownsRow base e 1 (.slice (some ⟨w.heap.size, 0, none⟩) cs.length cs.length) cs.length cs :=
  ⟨by simp, .inr ⟨w.heap.size, cs.length, cs.toArray, rfl, hb, heap_alloc_new w _, Nat.le_refl _, hc, by simp, by simp⟩⟩
theorem own_keepH {w w' : World} {base : Nat} {e : TypeId} {size n : Nat} {v : Value} {xs : List Value} (h : w.ownsRow base e size v n xs) (hk : ∀ b, v.ownBlock = some b → w'.heap[b]? = w.heap[b]?) : w'.ownsRow base e size v n xs := by
  refine ⟨h.1, ?_⟩
  rcases h.2 with h0 | ⟨g, cap, cur, rfl, hb, hg, r⟩
  · exact .inl h0
  · exact .inr ⟨g, cap, cur, rfl, hb, (hk g rfl).trans hg, r⟩
theorem own_lowH {w : World} {base base' : Nat} {e : TypeId} {size n : Nat} {v : Value} {xs : List Value} (h : w.ownsRow base e size v n xs) (hb : base' ≤ base) : w.ownsRow base' e size v n xs := by
  refine ⟨h.1, ?_⟩
  rcases h.2 with h0 | ⟨g, cap, cur, rfl, hb', r⟩
  · exact .inl h0
  · exact .inr ⟨g, cap, cur, rfl, Nat.le_trans hb hb', r⟩
def HarbourPost (w : World) (x : Int) (at_ : List Int) (l : List Fv) (many : Nat) (e : Ending) (w' : World) : Prop :=
  ∃ A1 c1 A2 c2, e = .returned (.tuple #[.int .i64 (ndF x : Nat), .slice A1 (whereF (ndF x) at_).length c1, .slice A2 (deedsF (ndF x) (whereF (ndF x) at_).length many l).length c2]) ∧
    w'.ownsRow w.heap.size 3 1 (.slice A1 (whereF (ndF x) at_).length c1) (whereF (ndF x) at_).length (natv (whereF (ndF x) at_)) ∧
    w'.ownsRow w.heap.size 35 5 (.slice A2 (deedsF (ndF x) (whereF (ndF x) at_).length many l).length c2) (deedsF (ndF x) (whereF (ndF x) at_).length many l).length (dvcs (deedsF (ndF x) (whereF (ndF x) at_).length many l)) ∧ Below w.heap.size w w'
set_option maxRecDepth 100000 in
set_option maxHeartbeats 4000000 in
theorem harbour_any (w : World) (x : Int) (hx : I64 x) (A : Option Addr) (n c : Nat) (at_ : List Int) (A2 : Option Addr) (m c2 : Nat) (l : List Fv) (many : Nat) (hmany : many ≤ 150) (hn : n = at_.length) (hc : ∀ x ∈ at_, I64 x) (hnc : n ≤ c) (hcm : c ≤ maxLen) (hr : Reads w Any 1 A n (nums at_)) (hm : m = l.length) (hmc : m ≤ c2) (hc2 : c2 ≤ maxLen) (hrd : Reads w Any 5 A2 m (fivcs l)) (hl : ∀ x ∈ l, I64V x) :
    Calls Try.prog 4 #[.int .i64 x, .slice A n c, .slice A2 m c2, .int .i64 (many : Nat)] w (HarbourPost w x at_ l many) := by
  have hn63 : n ≤ 9223372036854775807 := by unfold maxLen at hcm; omega
  have hm63 : m ≤ 9223372036854775807 := by unfold maxLen at hc2; omega
  have Hn := Lib.hid hn
  have Hm := Lib.hid hm
  have Hc := Lib.hid hc
  have Hl := Lib.hid hl
  have Hrd := Lib.hid hrd
  have R0 := Lib.hid (rest_q x 3 w ((rs x 3 : Nat) : Int) hx (by omega) (by omega) (rs_eq _ _ (by omega)))
  have hnd := ndF_bd x
  obtain ⟨nd, hnde⟩ : ∃ nd, nd = ndF x := ⟨_, rfl⟩
  have hr3 : ((rs x 3 : Nat) : Int) = (nd : Int) - 1 := by rw [hnde]; unfold ndF; omega
  rw [hr3] at R0
  rw [← hnde] at hnd
  have Hnd := Lib.hid hnde
  obtain ⟨nd1, nd3⟩ := hnd
  have e1 : (1 : Int) + ((nd : Int) - 1) = (nd : Int) := by omega
  clear hn hm hc hl hrd hnde hr3 hx
  go_enter Try.func4, Try.ntmps4
  go_wp2_with (fail)
  refine R0.out.mono ?_
  rintro e w' ⟨rfl, rfl⟩
  dsimp only
  go_wp2_with (fail)
  have hown0 : (w.alloc (.cells #[.int .i64 1] 3)).ownsRow w.heap.size 3 1 (.slice (some ⟨w.heap.size, 0, none⟩) 1 1) 1 (natv [1]) := own_new w [.int .i64 1] _ _ (Nat.le_refl _) (by simp [maxLen])
  have HO0 := Lib.hid hown0
  clear hown0 e1
  go_loopw [11, 23] (fun v11 i wr => ∃ k A1 c1, k ≤ n ∧ i = .int .i64 (k : Nat) ∧ v11 = .slice A1 (whereF nd (at_.take k)).length c1 ∧ Hid (wr.ownsRow w.heap.size 3 1 (.slice A1 (whereF nd (at_.take k)).length c1) (whereF nd (at_.take k)).length (natv (whereF nd (at_.take k))) ∧ Below w.heap.size w wr)) (fun _ i _ => n - (intOf i).toNat)
  case atStart => exact ⟨0, _, _, Nat.zero_le _, rfl, by simp [whereF], HO0.out, (Below.refl _ _).alloc (Nat.le_refl _) _⟩
  case round =>
    obtain ⟨k, A1, c1, hk, rfl, rfl, HK⟩ := hrel
    have hlen := (whereF_len nd (at_.take k)).1
    by_cases hlt : k < n
    · have hkl : k < at_.length := by have := Hn.out; omega
      obtain ⟨b, off, u, rfl, _, hu, hcell⟩ := hr.at_ hlt
      rw [nums_at at_ k hkl] at hu
      injection hu with hu
      subst hu
      have g0 := (Same.any (D := Any) HK.out.2).cell trivial hcell
      have lb := lt_of_cell g0
      have hnx := whereF_next nd at_ k hkl
      have hx := Hc.out _ (List.getElem_mem hkl)
      have RS := Lib.hid (fun W => rest_q at_[k] (nd : Int) W ((rs at_[k] nd : Nat) : Int) hx (by omega) (by omega) (rs_eq _ _ (by omega)))
      have hbd := rs_lt at_[k] nd (by omega)
      generalize rs at_[k] nd = q at RS hnx hbd
      generalize at_[k] = x at g0 RS
      have HNX := Lib.hid hnx
      generalize whereF nd (at_.take k) = cs at HK hlen HNX
      clear hnx hcell hx
      by_cases h4 : k < 2
      · go_wp2_with (first | (go_at_call 8; refine (RS.out _).mono ?_; rintro e w' ⟨rfl, rfl⟩) | (at_builtin; refine app_int _ rfl (.tmp 30) (.tmp 35) rfl (HK.out.1.alloc _) rfl (Reads.new (D := Any) _ [.int .i64 (1 + (q : Int))] 1 1 _ trivial rfl) rfl (by simp [Value.oneCell']) (by omega) (by have := HK.out.2.size; simp; omega) ?_; intro v2 w2 hown2 hg2 hat2; obtain ⟨A9, c9, rfl, _⟩ := own_form hown2))
        have hb2 : Below w.heap.size w w2 := (HK.out.2.alloc HK.out.2.size _).grown hg2 (by have := HK.out.2.size; simp; omega) (fun b hb => (HK.out.1.lt b hb).1)
        have e1 : (cs ++ [1 + q]).length = cs.length + 1 := by simp
        refine ⟨⟨k + 1, A9, c9, by omega, by go_num, by rw [HNX.out, if_pos h4, e1], ?_⟩, by simp [intOf]; omega⟩
        rw [HNX.out, if_pos h4, e1, natv_snoc]
        rw [show ((1 + q : Nat) : Int) = 1 + (q : Int) by omega]
        exact ⟨hown2, hb2⟩
      · go_wp2_with (fail)
        exact ⟨⟨k + 1, A1, c1, by omega, by go_num, by rw [HNX.out, if_neg h4], by rw [HNX.out, if_neg h4]; exact HK.out⟩, by simp [intOf]; omega⟩
    · obtain rfl : k = n := by omega
      have hall : at_.take k = at_ := List.take_of_length_le (by have := Hn.out; omega)
      rw [hall] at HK hlen ⊢
      have hpos := (whereF_len nd at_).2
      obtain ⟨wo, hwo⟩ : ∃ wo, wo = wr := ⟨_, rfl⟩
      subst hwo
      obtain ⟨nc, hnc'⟩ : ∃ nc, nc = (whereF nd at_).length := ⟨_, rfl⟩
      rw [← hnc'] at HK hlen hpos ⊢
      have Hnc := Lib.hid hnc'
      clear hall hnc' HO0 hlt
      go_wp2_with (fail)
      go_loopw [14, 40] (fun v14 i wr => ∃ j A3 c3, j ≤ m ∧ i = .int .i64 (j : Nat) ∧ v14 = .slice A3 (deedsF nd nc many (l.take j)).length c3 ∧ Hid (wr.ownsRow wo.heap.size 35 5 (.slice A3 (deedsF nd nc many (l.take j)).length c3) (deedsF nd nc many (l.take j)).length (dvcs (deedsF nd nc many (l.take j))) ∧ Below wo.heap.size wo wr)) (fun _ i _ => m - (intOf i).toNat)
      case atStart => exact ⟨0, none, 0, Nat.zero_le _, rfl, by simp [deedsF], by simpa [deedsF, dvcs] using World.ownsRow_nil _ _ _ _, Below.refl _ _⟩
      case round =>
        obtain ⟨j, A3, c3, hj, rfl, rfl, HJ⟩ := hrel
        have hdl := deedsF_len nd nc many (l.take j)
        by_cases hltj : j < m
        · have hjl : j < l.length := by have := Hm.out; omega
          obtain ⟨b, off, rfl, _, hcell⟩ := Hrd.out.2 (by omega)
          have hsm := Same.any (D := Any) (HK.out.2.trans (HJ.out.2.mono HK.out.2.size))
          have hat := fun (i : Nat) (hi : i < 5) (u : Value) (hu : (fivc l[j])[i]? = some u) => hsm.cell trivial (hcell (j * 5 + i) u (by rw [fivcs_at l j i hjl hi]; exact hu))
          have hnx := deedsF_next nd nc many l j hjl
          have hx := Hl.out _ (List.getElem_mem hjl)
          generalize l[j] = x at hat hnx hx
          obtain ⟨x0, x1, x2, x3, x4⟩ := x
          obtain ⟨i0, i1, i2, i3, i4⟩ := hx
          simp only at i0 i1 i2 i3 i4
          have R0 := Lib.hid (fun W => rest_q x0 3 W ((rs x0 3 : Nat) : Int) i0 (by omega) (by omega) (rs_eq _ _ (by omega)))
          have R1 := Lib.hid (fun W => rest_q x1 nd W ((rs x1 nd : Nat) : Int) i1 (by omega) (by omega) (rs_eq _ _ (by omega)))
          have R2 := Lib.hid (fun W => rest_q x2 nd W ((rs x2 nd : Nat) : Int) i2 (by omega) (by omega) (rs_eq _ _ (by omega)))
          have R3 := Lib.hid (fun W => rest_q x3 nc W ((rs x3 nc : Nat) : Int) i3 (by omega) (by omega) (rs_eq _ _ (by omega)))
          have b0 := rs_lt3 x0
          have b1 := rs_lt x1 nd (by omega)
          have b2 := rs_lt x2 nd (by omega)
          have b3 := rs_lt x3 nc (by omega)
          have g0 := hat 0 (by omega) _ rfl
          have g1 := hat 1 (by omega) _ rfl
          have g2 := hat 2 (by omega) _ rfl
          have g3 := hat 3 (by omega) _ rfl
          have g4 := hat 4 (by omega) _ rfl
          simp only [Nat.add_zero, ← Nat.add_assoc] at g0 g1 g2 g3 g4
          have lb := lt_of_cell g0
          have hnx' : deedsF nd nc many (l.take (j + 1)) = if j < many then deedsF nd nc many (l.take j) ++ [⟨1 + rs x0 3, 1 + rs x1 nd, 1 + rs x2 nd, rs x3 nc, j⟩] else deedsF nd nc many (l.take j) := hnx
          generalize rs x0 3 = r0 at R0 b0 hnx'
          generalize rs x1 nd = r1 at R1 b1 hnx'
          generalize rs x2 nd = r2 at R2 b2 hnx'
          generalize rs x3 nc = r3 at R3 b3 hnx'
          have HNX := Lib.hid hnx'
          generalize deedsF nd nc many (l.take j) = ds at HJ hdl HNX
          clear hnx hnx' hcell hsm hat i0 i1 i2 i3 i4
          by_cases h150 : j < many
          · go_upto_region 14 with (fail)
            obtain ⟨W, hW⟩ : ∃ W, W = wr.alloc (.cells #[.int .i64 x0, .int .i64 x1, .int .i64 x2, .int .i64 x3, .int .i64 x4] 35) := ⟨_, rfl⟩
            have hD : Blk W wr.heap.size 35 [.int .i64 x0, .int .i64 x1, .int .i64 x2, .int .i64 x3, .int .i64 x4] := by rw [hW]; exact Blk.new wr _ _
            have hbW : Below wr.heap.size wr W := by rw [hW]; exact (Below.refl _ _).alloc (Nat.le_refl _) _
            have hoW : W.ownsRow wo.heap.size 35 5 (.slice A3 ds.length c3) ds.length (dvcs ds) := own_keepH HJ.out.1 fun b hb => hbW.block b (HJ.out.1.lt b hb).2
            have hbwW : Below wo.heap.size wo W := HJ.out.2.trans (hbW.mono HJ.out.2.size)
            have hne : (Value.slice A3 ds.length c3).ownBlock ≠ some wr.heap.size := fun e => by have := (HJ.out.1.lt _ e).2; omega
            rw [← hW]
            generalize wr.heap.size = D at hD hne ⊢
            have HoW := Lib.hid hoW
            have HbW := Lib.hid hbwW
            have HD := Lib.hid hD
            have Hne := Lib.hid hne
            have e0 := hD.cell 0
            have e1 := hD.cell 1
            have e2 := hD.cell 2
            have e3 := hD.cell 3
            simp only [List.getElem?_cons_zero, List.getElem?_cons_succ] at e0 e1 e2 e3
            have lD := hD.lt
            have k0 : IntKind.i64.wrap (1 + (r0 : Int)) = 1 + (r0 : Int) := IntWalk.i64_in _ (by omega)
            have k1 : IntKind.i64.wrap (1 + (r1 : Int)) = 1 + (r1 : Int) := IntWalk.i64_in _ (by omega)
            have k2 : IntKind.i64.wrap (1 + (r2 : Int)) = 1 + (r2 : Int) := IntWalk.i64_in _ (by omega)
            have hWs : wo.heap.size ≤ W.heap.size := hbwW.size
            clear hW hbW hoW hbwW hne hD g0 g1 g2 g3 g4 lb
            go_region_held3 (fun w' => w'.cell? ⟨D, 0, none⟩ = some (.int .i64 x0) ∧ w'.cell? ⟨D, 1, none⟩ = some (.int .i64 x1) ∧ w'.cell? ⟨D, 2, none⟩ = some (.int .i64 x2) ∧ w'.cell? ⟨D, 3, none⟩ = some (.int .i64 x3))
              (first | exact ⟨hkp.cell 0, hkp.cell 1, hkp.cell 2, hkp.cell 3⟩ | go_keep)
              (first
                | (go_at_call 8; (with_reducible refine (R0.out _).mono ?_); rintro e w' ⟨rfl, rfl⟩)
                | (go_at_call 8; (with_reducible refine (R1.out _).mono ?_); rintro e w' ⟨rfl, rfl⟩)
                | (go_at_call 8; (with_reducible refine (R2.out _).mono ?_); rintro e w' ⟨rfl, rfl⟩)
                | (go_at_call 8; (with_reducible refine (R3.out _).mono ?_); rintro e w' ⟨rfl, rfl⟩)
                | (refine step_app_mdeed _ rfl (.tmp 48) (.tmp 70) (by rfl) (base := wo.heap.size) (v := .slice A3 ds.length c3) (n := ds.length) (xs := dvcs ds) (by exact HoW.out.alloc (.cells #[.int .i64 (1 + (r0 : Int)), .int .i64 (1 + (r1 : Int)), .int .i64 (1 + (r2 : Int)), .int .i64 (r3 : Int), .int .i64 (j : Int)] 35)) rfl (D := Any) (A := some ⟨W.heap.size, 0, none⟩) (m := 1) (news := [.int .i64 (1 + (r0 : Int)), .int .i64 (1 + (r1 : Int)), .int .i64 (1 + (r2 : Int)), .int .i64 (r3 : Int), .int .i64 (j : Int)]) (c := 1) (by exact Reads.new (D := Any) W [.int .i64 (1 + (r0 : Int)), .int .i64 (1 + (r1 : Int)), .int .i64 (1 + (r2 : Int)), .int .i64 (r3 : Int), .int .i64 (j : Int)] 5 1 35 trivial rfl) rfl (by simp [Value.oneCell']) (by omega) (by first | omega | (simp; omega)) ?_; intro v2 w2 hown2 hg2 hat2; obtain ⟨A9, c9, rfl, _⟩ := own_form hown2; have hgw := grown_of_allocd hg2; have hkp := HD.out.grown hgw (fun e => Hne.out e.symm)))
            go_wp2_with (fail)
            have hb2 : Below wo.heap.size wo w2 := HbW.out.grown hgw hWs (fun k hk => (HoW.out.lt k hk).1)
            have e1 : (ds ++ [(⟨1 + r0, 1 + r1, 1 + r2, r3, j⟩ : Dv)]).length = ds.length + 1 := by simp
            refine ⟨⟨j + 1, A9, c9, by omega, by go_num, by rw [HNX.out, if_pos h150, e1], ?_⟩, by simp [intOf]; omega⟩
            rw [HNX.out, if_pos h150, e1, dvcs_snoc]
            have ed : dvc ⟨1 + r0, 1 + r1, 1 + r2, r3, j⟩ = [.int .i64 (1 + (r0 : Int)), .int .i64 (1 + (r1 : Int)), .int .i64 (1 + (r2 : Int)), .int .i64 (r3 : Int), .int .i64 (j : Int)] := by simp [dvc]
            rw [ed]
            exact ⟨hown2, hb2⟩
          · go_wp2_with (fail)
            refine ⟨⟨j + 1, A3, c3, by omega, by go_num, by rw [HNX.out, if_neg h150], ?_⟩, by simp [intOf]; omega⟩
            rw [HNX.out, if_neg h150]
            exact ⟨own_keepH HJ.out.1 fun b hb => Below.heap_alloc _ _ b (HJ.out.1.lt b hb).2, HJ.out.2.alloc HJ.out.2.size _⟩
        · obtain rfl : j = m := by omega
          have hall : l.take j = l := List.take_of_length_le (by have := Hm.out; omega)
          rw [hall] at HJ hdl ⊢
          have hk1 := own_keepH HK.out.1 fun b hb => HJ.out.2.block b (HK.out.1.lt b hb).2
          have hk2 := own_lowH HJ.out.1 HK.out.2.size
          have hk3 := HK.out.2.trans (HJ.out.2.mono HK.out.2.size)
          have Hk1 := Lib.hid hk1
          have Hk2 := Lib.hid hk2
          have Hk3 := Lib.hid hk3
          clear hall HK HJ hk1 hk2 hk3 hr
          go_wp2_with (fail)
          go_ret3
          have e := Hnc.out
          have e2 := Hnd.out
          subst e e2
          exact ⟨A1, c1, A3, c3, rfl, Hk1.out, Hk2.out, Hk3.out⟩
end Go.Proofs.Ytckkelppdeampaa
