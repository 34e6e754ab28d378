/- Contracts of the graph's adder, of query.types at no types, of query.typ at Int, and of query.body at a body. -/
import Derived.Test.YtaealapgebbnlaaGreatDoorQrVis
set_option linter.unusedVariables false
namespace Go.Md
open Go.Mem Go.RowKit
/-- the set of n behind a body b -/
def addAll (n : Bs) (ts : List Bs) (l : List Bs) : List Bs := ts.foldl (fun l t => addF n t l) l
theorem addAll_snoc (n : Bs) (ts : List Bs) (t : Bs) (l : List Bs) : addAll n (ts ++ [t]) l = addF n t (addAll n ts l) := by simp [addAll]
theorem addAll_nodup {n : Bs} {ts : List Bs} {l : List Bs} (h : l.Nodup) : (addAll n ts l).Nodup := by
  induction ts generalizing l with
  | nil => exact h
  | cons t r ih => exact ih (addF_nodup h)
/-- where the names of a body lie -/
def heads : Bd → List Bs
  | none => [[68]]
  | some (x, y) => [[x], [y]]
theorem heads_len (b : Bd) : (heads b).length = (texts b).length := by rcases b with _ | ⟨x, y⟩ <;> rfl
theorem set_ne {w : World} {b g o : Nat} {l : List Bs} {u : Value} (h : SetAt w b l) (hc : w.cell? ⟨g, o, none⟩ = some u) : g ≠ b := by
  rintro rfl
  obtain ⟨es, clock, hb, _⟩ := h
  simp [World.cell?, hb] at hc
end Go.Md
namespace Go.Proofs.YtaealapgebbnlaaGreatDoor
open Go.RowKit Go.Mem Go.Md
theorem adder_any (w : World) (G : Nat) (n : Bs) : Calls Tryz.prog 27 #[.pointer (some ⟨G, 0, none⟩), bst n] w fun e w' => ∃ p1 p2, e = .returned (.func (.func 49) #[] #[.pointer (some ⟨p1, 0, none⟩), .pointer (some ⟨p2, 0, none⟩)]) ∧
    w'.cell? ⟨p1, 0, none⟩ = some (.pointer (some ⟨G, 0, none⟩)) ∧ w'.cell? ⟨p2, 0, none⟩ = some (bst n) ∧ w.heap.size ≤ p1 ∧ w.heap.size ≤ p2 ∧ Below w.heap.size w w' := by
  go_enter Tryz.func27, Tryz.ntmps27
  go_wp2_with (fail)
  go_ret
  have q1 := (Blk.new w 59 [.pointer (some ⟨G, 0, none⟩)]).alloc (.cells [bst n].toArray 9)
  have q2 := Blk.new (w.alloc (.cells [.pointer (some ⟨G, 0, none⟩)].toArray 59)) 9 [bst n]
  have b1 : Below w.heap.size w (w.alloc (.cells [.pointer (some ⟨G, 0, none⟩)].toArray 59)) := (Below.refl _ _).alloc (Nat.le_refl _) _
  rw [World.size_alloc] at q2
  exact ⟨_, _, rfl, q1.cell 0, q2.cell 0, Nat.le_refl _, Nat.le_succ _, b1.alloc b1.size _⟩
theorem types_nil (f : Value) (w : World) : Calls Tryz.prog 26 #[.slice none 0 0, f] w fun e w' => e = .returned (.tuple #[]) ∧ w = w' := by
  go_enter Tryz.func26, Tryz.ntmps26
  go_wp2_with (fail)
  go_loopw [8] (fun v wr => v = .int .i64 0 ∧ w = wr) (fun _ _ => 0)
  case atStart => exact ⟨rfl, rfl⟩
  case round =>
    obtain ⟨rfl, rfl⟩ := hrel
    go_wp2_with (fail)
    go_end0
    exact ⟨rfl, rfl⟩
theorem typ_int (f : Value) (w : World) : Calls Tryz.prog 29 #[.agg #[.int .i64 1, .string ⟨#[]⟩, .slice none 0 0], f] w fun e w' => e = .returned (.tuple #[]) ∧ Below w.heap.size w w' := by
  go_enter Tryz.func29, Tryz.ntmps29
  go_wp2_with (fail)
  refine (types_nil _ _).mono ?_
  rintro e w1 ⟨rfl, rfl⟩
  go_wp2_with (fail)
  go_end0
  exact ⟨rfl, (Below.refl _ _).alloc (Nat.le_refl _) _⟩
set_option maxRecDepth 100000 in
set_option maxHeartbeats 4000000 in
theorem body_any (G U I p1 p2 k bk : Nat) (acts : Value) (nm : List Bs) (im : List (Bs × Value)) (bs : List Nat) (ls : List (List Bs)) (n : Bs) (l : List Bs) (b : Bd) (cs : List Value) (w : World) (hb : BdCells w (fun x => x ≠ bk) cs b)
    (hg : Gr w G U I acts nm im bs ls) (h1 : w.cell? ⟨p1, 0, none⟩ = some (.pointer (some ⟨G, 0, none⟩))) (h2 : w.cell? ⟨p2, 0, none⟩ = some (bst n)) (hk : nm[k]? = some n) (hbk : bs[k]? = some bk) (hl : ls[k]? = some l)
    (hX : ∀ (i : Nat) (s t : Bs), (texts b)[i]? = some s → (heads b)[i]? = some t → (∃ j : Nat, nm[j]? = some t) ∧ (s = t ∨ s ∉ nm ∧ okB s ∧ mget im s = some (bst t))) :
    Calls Tryz.prog 30 #[.agg cs.toArray, .func (.func 49) #[] #[.pointer (some ⟨p1, 0, none⟩), .pointer (some ⟨p2, 0, none⟩)]] w fun e w' => e = .returned (.tuple #[]) ∧ SetAt w' bk (addAll n (heads b) l) ∧ GrownIn (fun x => x = bk) w w' := by
  have hS := hg.s k bk l hbk hl
  have hbl : bk < w.heap.size := MapOf.lt hS
  have np1 := set_ne hS h1
  have np2 := set_ne hS h2
  have WK := Lib.hid (fun (V : World) (hV : Below w.heap.size w V) => walk_any b cs V (BdCells.stable.imp (BdCells.stable.keep hb (Same.any hV)) fun _ _ _ => trivial))
  obtain ⟨kk, tx, Ab, mb, cb, rfl⟩ := hb.shape
  have HG := Lib.hid (And.intro hg (And.intro h1 h2))
  have HK := Lib.hid (And.intro hk (And.intro hbk hl))
  have HB := Lib.hid (And.intro hbl (And.intro np1 np2))
  have HX := Lib.hid hX
  have HS := Lib.hid hS
  clear hb hg h1 h2 hk hbk hl hX hS hbl np1 np2
  go_enter Tryz.func30, Tryz.ntmps30
  go_wp2_with (fail)
  have b1 : Below w.heap.size w (w.alloc (.cells #[.int .i64 kk, .int .i64 0, .string tx, .slice none 0 0, .slice none 0 0, .slice Ab mb cb, .slice none 0 0, .int .i64 0] 50)) := (Below.refl _ _).alloc (Nat.le_refl _) _
  refine (WK.out _ b1).mono ?_
  rintro e W1 ⟨A, m, c, vss, rfl, hm, hmc, hcm, hr, ha, hb2⟩
  have B1 := Lib.hid (below_next hb2 b1)
  have hr2 : Reads W1 (fun x => w.heap.size ≤ x) 8 A m (List.flatten vss) := hr.imp (by omega) fun x hx _ => Nat.le_trans b1.size hx
  have ha2 : All2 (VisCells W1 (fun x => w.heap.size ≤ x)) vss (texts b) := ha.imp fun _ _ h => h
  have LR := Lib.hid (And.intro hr2 ha2)
  have HM := Lib.hid hm
  have hm2 : m ≤ 1000 := by
    rw [hm]
    rcases b with _ | ⟨x, y⟩ <;> simp [texts]
  clear hb2 b1 hr ha hm WK hr2 ha2
  go_wp2_with (fail)
  go_loopw [11] (fun v wr => ∃ i : Nat, i ≤ m ∧ v = .int .i64 (i : Nat) ∧ Hid (Gr wr G U I acts nm im bs (ls.set k (addAll n ((heads b).take i) l)) ∧ GrownIn (fun x => x = bk) W1 wr)) (fun v _ => m - (intOf v).toNat)
  case atStart =>
    refine ⟨0, Nat.zero_le _, rfl, ?_⟩
    have h0 : ls.set k (addAll n ((heads b).take 0) l) = ls := by
      obtain ⟨hkl, e⟩ := List.getElem?_eq_some_iff.1 HK.out.2.2
      simp only [List.take_zero, addAll, List.foldl_nil]
      rw [← e]
      exact List.set_getElem_self hkl
    exact ⟨by rw [h0]; exact HG.out.1.below B1.out, GrownIn.refl _ _⟩
  case round =>
    obtain ⟨i, hi, rfl, HW⟩ := hrel
    by_cases hlt : i < m
    · have hsz : w.heap.size ≤ W1.heap.size := B1.out.size
      have hlen : m = (heads b).length := by rw [heads_len]; exact HM.out
      have hit : i < (texts b).length := by rw [← HM.out]; exact hlt
      have sm : Same (fun x => w.heap.size ≤ x) W1 wr := Same.of_in HW.out.2 (fun x hx _ e => by have := HB.out.1; omega)
      have tw : GrownIn (fun x => x = bk) w wr := (GrownIn.of_below B1.out).trans HW.out.2 (fun x h => .inl h)
      have sw : Same (fun x => x ≠ bk) w wr := Same.of_in tw (fun x hx _ e => hx e)
      have q1 := LR.out.1.keep sm
      have q2 : All2 (VisCells wr (fun x => w.heap.size ≤ x)) vss (texts b) := LR.out.2.imp fun _ _ h => h
      obtain ⟨bx, ox, ecs, rfl, _, hv, hc⟩ := q1.elem VisCells.stable q2 HM.out hit
      obtain ⟨kd, A', n', c', hkd, rfl⟩ := hv
      obtain ⟨S, hS⟩ : ∃ S : ByteArray, S = ⟨((texts b)[i]).toArray⟩ := ⟨_, rfl⟩
      have f0 : wr.cell? ⟨bx, ox + i * 8, none⟩ = some (.int .i64 kd) := hc 0 _ rfl
      have f1 : wr.cell? ⟨bx, ox + i * 8 + 1, none⟩ = some (.int .i64 0) := hc 1 _ rfl
      have f2 : wr.cell? ⟨bx, ox + i * 8 + 2, none⟩ = some (.string S) := by rw [hS]; exact hc 2 _ rfl
      have f3 : wr.cell? ⟨bx, ox + i * 8 + 3, none⟩ = some (.slice none 0 0) := hc 3 _ rfl
      have f4 : wr.cell? ⟨bx, ox + i * 8 + 4, none⟩ = some (.slice none 0 0) := hc 4 _ rfl
      have f5 : wr.cell? ⟨bx, ox + i * 8 + 5, none⟩ = some (.slice A' n' c') := hc 5 _ rfl
      have f6 : wr.cell? ⟨bx, ox + i * 8 + 6, none⟩ = some (.slice none 0 0) := hc 6 _ rfl
      have f7 : wr.cell? ⟨bx, ox + i * 8 + 7, none⟩ = some (.int .i64 0) := hc 7 _ rfl
      have lf := lt_of_cell f0
      obtain ⟨t, ht⟩ : ∃ t, (heads b)[i]? = some t := ⟨_, List.getElem?_eq_getElem (by omega)⟩
      obtain ⟨⟨j, hj⟩, hs⟩ := HX.out i _ t (List.getElem?_eq_getElem hit) ht
      have hls : (ls.set k (addAll n ((heads b).take i) l))[k]? = some (addAll n ((heads b).take i) l) := List.getElem?_set_self (List.getElem?_eq_some_iff.1 HK.out.2.2).1
      have c1 := sw.cell HB.out.2.1 HG.out.2.1
      have c2 := sw.cell HB.out.2.2 HG.out.2.2
      have ad := fun (V : World) (hV : Below wr.heap.size wr V) => add_any p1 p2 V G U I acts nm im bs _ (HW.out.1.below hV) ((hV.cell (p := ⟨p1, 0, none⟩) (lt_of_cell c1)).trans c1) n t _ ((hV.cell (p := ⟨p2, 0, none⟩) (lt_of_cell c2)).trans c2) k bk _ HK.out.1 HK.out.2.1 hls j hj hs
      rw [show bst (texts b)[i] = .string S from by rw [hS]] at ad
      have AD := Lib.hid ad
      have hF := Blk.new wr 50 [.int .i64 kd, .int .i64 0, .string S, .slice none 0 0, .slice none 0 0, .slice A' n' c', .slice none 0 0, .int .i64 0]
      have bF : Below wr.heap.size wr (wr.alloc (.cells #[.int .i64 kd, .int .i64 0, .string S, .slice none 0 0, .slice none 0 0, .slice A' n' c', .slice none 0 0, .int .i64 0] 50)) := (Below.refl _ _).alloc (Nat.le_refl _) _
      have hFb : wr.heap.size ≠ bk := by have h1 := HB.out.1; have h2 := tw.size; omega
      have MK := Lib.hid (fun (V : World) (hV : GrownIn (fun x => x = bk) (wr.alloc (.cells #[.int .i64 kd, .int .i64 0, .string S, .slice none 0 0, .slice none 0 0, .slice A' n' c', .slice none 0 0, .int .i64 0] 50)) V) => (show Blk V wr.heap.size 50 [.int .i64 kd, .int .i64 0, .string S, .slice none 0 0, .slice none 0 0, .slice A' n' c', .slice none 0 0, .int .i64 0] from (hV.block _ hF.lt hFb).trans hF))
      have BF := Lib.hid bF
      have hta : addF n t (addAll n ((heads b).take i) l) = addAll n ((heads b).take (i + 1)) l := by
        rw [← addAll_snoc, List.take_add_one, ht]
        rfl
      have HT := Lib.hid hta
      clear ad hF bF hFb hta sm tw sw q1 q2 hc hS hls c1 c2 hs hj ht hit hlen hsz
      rcases hkd with rfl | rfl
      all_goals
        go_wp2_with (fail)
        refine (AD.out _ BF.out).mono ?_
        rintro e W5 ⟨rfl, hs5, hg5⟩
        have z4 := (MK.out W5 hg5).cell 4
        have z6 := (MK.out W5 hg5).cell 6
        simp only [List.getElem?_cons_zero, List.getElem?_cons_succ] at z4 z6
        have lz := lt_of_cell z4
        have FN := Lib.hid (And.intro hs5 hg5)
        clear hs5 hg5 f0 f1 f2 f3 f4 f5 f6 f7 lf
        go_wp2_with (fail)
        refine (types_nil _ _).mono ?_
        rintro e w6 ⟨rfl, rfl⟩
        go_wp2_with (fail)
        go_loopw [32] (fun v w1 => v = .int .i64 0 ∧ W5 = w1) (fun _ _ => 0)
        case atStart => exact ⟨rfl, rfl⟩
        case round =>
          obtain ⟨rfl, rfl⟩ := hrel
          go_wp2_with (fail)
          refine ⟨⟨i + 1, by omega, by go_num, ?_⟩, by simp [intOf]; omega⟩
          have g1 := (HW.out.1.below BF.out).put HK.out.2.1 FN.out.2 FN.out.1
          rw [List.set_set, HT.out] at g1
          exact ⟨g1, (HW.out.2.trans (GrownIn.of_below (own := fun x => x = bk) BF.out) (fun x h => .inl h)).trans FN.out.2 (fun x h => .inl h)⟩
    · obtain rfl : i = m := by omega
      go_wp2_with (fail)
      go_end0
      have hls : (ls.set k (addAll n ((heads b).take i) l))[k]? = some (addAll n ((heads b).take i) l) := List.getElem?_set_self (List.getElem?_eq_some_iff.1 HK.out.2.2).1
      have h1 := HW.out.1.s k bk _ HK.out.2.1 hls
      rw [List.take_of_length_le (by rw [heads_len, ← HM.out]; exact Nat.le_refl _)] at h1
      exact ⟨rfl, h1, (GrownIn.of_below B1.out).trans HW.out.2 (fun x h => .inl h)⟩
end Go.Proofs.YtaealapgebbnlaaGreatDoor
