/- Contract of solve.Best. -/
import Derived.Test.YtpdjeaiojfghnaaDoorSvKeyC
set_option linter.unusedVariables false
namespace Go.Proofs.YtpdjeaiojfghnaaDoor
open Go.RowKit Go.Mem Go.Sv Go.Maps
def verF (r : List Md) (n : Nm) : Pk := (n, ((pickOf r n).map (·.ver)).getD 0)
def picksF (r : List Md) : List Pk := (sorted (r.map (·.name))).map (verF r)
def bestF (ms : List Md) (root : List Us) (first : List Pk) : Option (List Pk) := (completeF ms first root 31 []).map picksF
theorem info_pk : (Tryd.prog.info? 32).map (fun i => (i.zero, i.size, i.bytes)) = some (some (.agg #[.string ⟨#[]⟩, .int .i64 0]), 2, 24) := by kernel_rfl
theorem app_pk (w : World) {ops : Array Oper} {rest : List Oper} {o : Oper} {a : Act} {Q : Exit → Act → World → Prop} (hgd : o.guard = none) (s x : Operand) (T : TypeId) (hT : Tryd.prog.underlying T = some (.slice 32))
    (ho : o.op = .call { callee := .builtin .append, args := #[s, x], argTypes := #[T, T] })
    {base : Nat} {v : Value} {n : Nat} {xs : List Value} (hown : w.ownsRow base 32 2 v n xs) (hs : a.eval s = v)
    {D : Nat → Prop} {A : Option Addr} {m : Nat} {news : List Value} (hr : Reads w D 2 A m news) {c : Nat} (hx : a.eval x = .slice A m c) (h1 : ∀ u ∈ news, u.oneCell' = true)
    (h63 : n + m ≤ 1099511627776) (hbase : base ≤ w.heap.size)
    (h : ∀ v' w', w'.ownsRow base 32 2 v' (n + m) (xs ++ news) → w.grownBy w' v.ownBlock → (v'.ownBlock = v.ownBlock ∨ v'.ownBlock = some w.heap.size) → wpList Tryd.prog ops Q rest (a.put o.dst v') w') : wpList Tryd.prog ops Q (o :: rest) a w := by
  obtain ⟨i0, hi0, hz0, hz1, hz2⟩ := info_parts info_pk
  exact wpList_append_any w hgd s x _ ho base _ i0 _ 2 24 hT hi0 hz0 hz1 hz2 rfl (by omega) v n xs hs hown D A m c news hx hr h1 (by simp only [maxLen]; omega) (by omega) hbase h
theorem complete_right {ms : List Md} {first : List Pk} {root : List Us} {r : List Md} (h : completeF ms first root 31 [] = some r)   : Go.Sv.Way ms root r ∧ Full ms root r := by
  obtain ⟨h1, h2, _⟩ := complete_full 31 [] r .nil (by unfold satB; rw [List.all_eq_true]; intro u _; rfl) h
  exact ⟨h1, h2⟩
theorem sorted_perm' (l : List Nm) : (sorted l).Perm l := List.mergeSort_perm l leB
def BestPost (w : World) (R : Option (List Pk)) : Ending → World → Prop := fun e w' => Below w.heap.size w w' ∧
  (R = none → e = .returned (.tuple #[.slice none 0 0, .int .i64 22])) ∧
  ∀ l, R = some l → ∃ A c, e = .returned (.tuple #[.slice A l.length c, .int .i64 0]) ∧ l.length ≤ c ∧ c ≤ maxLen ∧ Reads w' (fun b => w.heap.size ≤ b) 2 A l.length (pks l)
set_option maxRecDepth 100000 in
set_option maxHeartbeats 4000000 in
theorem best_any (w : World) (A1 : Option Addr) (n1 c1 : Nat) (ms : List Md) (Ar : Option Addr) (nr cr : Nat) (root : List Us) (A2 : Option Addr) (n2 c2 : Nat) (first : List Pk)
    (h1 : MdsAt w Any A1 n1 c1 ms) (hm : MsOk ms) (h2 : Reads w Any 3 Ar nr (uss root)) (hnr : nr = root.length) (hcr : nr ≤ cr) (hcm : cr ≤ maxLen) (hr5 : nr ≤ 5) (hroot : ∀ u ∈ root, UsOk u) (h3 : Reads w Any 2 A2 n2 (pks first)) (hn2 : n2 = first.length) (hf : n2 ≤ 1000) :
    Calls Tryd.prog 4 #[.slice A1 n1 c1, .slice Ar nr cr, .slice A2 n2 c2] w (BestPost w (bestF ms root first)) := by
  have K1 := check_any A1 n1 c1 ms w h1 hm
  have K2 := Lib.hid (fun w1 (hb : Below w.heap.size w w1) => wants_any Ar nr cr root w1 (h2.keep (Same.any hb)) hnr hr5 hroot)
  have HS := Lib.hid (fun (w2 : World) (hb : Below w.heap.size w w2) => (show SearchAt ((w2.alloc (.map #[] 0)).alloc (.cells #[.slice A1 n1 c1, .slice A2 n2 c2, .map (some w2.heap.size), .slice Ar nr cr] 44)) (w2.heap.size + 1) w2.heap.size A1 n1 c1 ms A2 n2 c2 first Ar nr cr (wantsOf root []) [] by
    have hw : wantsOf root [] = root := by simp [wantsOf]
    rw [hw]
    have hbb : Below w2.heap.size w2 ((w2.alloc (.map #[] 0)).alloc (.cells #[.slice A1 n1 c1, .slice A2 n2 c2, .map (some w2.heap.size), .slice Ar nr cr] 44)) := ((Below.refl _ _).alloc (Nat.le_refl _) _).alloc (by simp) _
    have hk : Below w.heap.size w ((w2.alloc (.map #[] 0)).alloc (.cells #[.slice A1 n1 c1, .slice A2 n2 c2, .map (some w2.heap.size), .slice Ar nr cr] 44)) := hb.trans (hbb.mono hb.size)
    have hap : ∀ b, Any b → b < w.heap.size → Ap2 (w2.heap.size + 1) w2.heap.size b := fun b _ hl => by have := hb.size; unfold Ap2; omega
    have hkk : Same (Ap2 (w2.heap.size + 1) w2.heap.size) w ((w2.alloc (.map #[] 0)).alloc (.cells #[.slice A1 n1 c1, .slice A2 n2 c2, .map (some w2.heap.size), .slice Ar nr cr] 44)) := fun b _ hl => hk.block b hl
    have hbl := Blk.new (w2.alloc (.map #[] 0)) 44 [.slice A1 n1 c1, .slice A2 n2 c2, .map (some w2.heap.size), .slice Ar nr cr]
    rw [show (w2.alloc (.map #[] 0)).heap.size = w2.heap.size + 1 by simp] at hbl
    exact ⟨hbl, (MapOf.new w2).alloc _, (h1.imp hap).keep hkk, ⟨hn2, (h3.imp (by omega) hap).keep hkk⟩, ⟨hnr, hcr, hcm, (h2.imp (by omega) hap).keep hkk⟩, by omega⟩))
  have CO := Lib.hid (fun S PK W (hs : SearchAt W S PK A1 n1 c1 ms A2 n2 c2 first Ar nr cr (wantsOf root []) []) => complete_any S PK A1 n1 c1 ms A2 n2 c2 first root hm hf (by omega) hroot 31 W Ar nr cr [] [] rfl hs .nil (by simp) (by simp))
  have hR := fun r => complete_right (ms := ms) (first := first) (root := root) (r := r)
  have hm1 := @run_makeMap Tryd.prog
  unfold bestF BestPost
  generalize completeF ms first root 31 [] = R at CO hR ⊢
  clear h1 h2 h3 hroot hnr hcr hcm hr5 hn2 hf
  have HM := Lib.hid hm
  have HR := Lib.hid hR
  clear hm hR
  go_enter Tryd.func4, Tryd.ntmps4
  go_wp2_with (fail)
  refine K1.mono ?_
  rintro e w1 ⟨rfl, hb1⟩
  have HB1 := Lib.hid hb1
  clear hb1 K1
  go_wp2_with (fail)
  refine (K2.out w1 HB1.out).mono ?_
  rintro e w2 ⟨rfl, hb2⟩
  have HB2 := Lib.hid (HB1.out.trans (hb2.mono HB1.out.size))
  clear hb2
  go_wp2_with (fail)
  refine (CO.out _ _ _ (HS.out w2 HB2.out)).mono ?_
  unfold CompPost
  rintro e w3 ⟨b, rfl, hg3, ht, hf⟩
  have hb3 : Below w.heap.size w w3 := Below.of_in (own := SPK (w2.heap.size + 1) w2.heap.size) (((HB2.out.alloc HB2.out.size _).alloc (Nat.le_trans HB2.out.size (by simp)) _)) hg3 (fun q hq => by have := HB2.out.size; rcases hq with hq | hq <;> omega) (by have := HB2.out.size; simp; omega)
  have HB3 := Lib.hid hb3
  clear hg3 hb3
  cases R with
  | none =>
    cases b with
    | true => obtain ⟨r, _, _, _, _, h, _⟩ := ht rfl; cases h
    | false =>
      clear ht hf hm1
      go_wp2_with (fail)
      go_ret2
      exact ⟨HB3.out, fun _ => rfl, fun l h => (by cases h)⟩
  | some r =>
    cases b with
    | false => obtain ⟨h, _⟩ := hf rfl; cases h
    | true =>
      obtain ⟨r', Aw', nw', cw', l', h, hs, hp⟩ := ht rfl
      injection h with h
      subst h
      have hrr := HR.out _ rfl
      have hlen : l'.length = r.length := by
        have := congrArg List.length hp.names
        simpa using this
      have hl30 : l'.length ≤ 30 := by
        have := nodup_len hrr.2.nd hrr.2.sub
        have := HM.out.ln
        omega
      obtain ⟨PK, hPK⟩ : ∃ PK, PK = w2.heap.size := ⟨_, rfl⟩
      rw [← hPK] at hs
      have q2 := hs.blk.cell 2
      have lS := hs.blk.lt
      simp only [List.getElem?_cons_zero, List.getElem?_cons_succ] at q2
      have HSt := Lib.hid hs
      have HPr := Lib.hid hp
      have HRr := Lib.hid hrr
      have HL := Lib.hid (And.intro hlen hl30)
      clear ht hf hm1 hs hp hrr CO HS K2
      rw [← hPK]
      have HPK := Lib.hid (show w.heap.size ≤ PK by rw [hPK]; exact HB2.out.size)
      clear hPK
      obtain ⟨L, hL⟩ : ∃ L, L = sorted (r.map (·.name)) := ⟨_, rfl⟩
      have hLl : L.length = r.length := by rw [hL, (sorted_perm' _).length_eq, List.length_map]
      have hLm : ∀ n ∈ L, ∃ m, m ∈ ms ∧ pickOf r n = some m ∧ m.name = n := by
        intro n hn
        rw [hL] at hn
        obtain ⟨m, h1, rfl⟩ := List.mem_map.1 ((sorted_perm' _).mem_iff.1 hn)
        exact ⟨m, HRr.out.2.sub m h1, pick_mem HRr.out.2.nd h1, rfl⟩
      have hnm : l'.map (·.1) = r.map (·.name) := HPr.out.names
      go_wp2_with (fail)
      refine (keysC (some PK) w3).mono ?_
      rintro e w4 ⟨rfl, rfl⟩
      have SC := sortedC PK l' w3 HSt.out.mp (by have := HL.out; omega)
      rw [hnm, ← hL, HL.out.1, ← hLl] at SC
      have SC := Lib.hid SC
      clear q2
      go_wp2_with (fail)
      refine SC.out.mono ?_
      rintro e w4 ⟨A4, c4, rfl, hr4, hb4⟩
      have hb34 : Below w3.heap.size w3 w4 := ((Below.refl _ _).alloc (Nat.le_refl _) _).trans (hb4.mono (by simp))
      have HB4 := Lib.hid (HB3.out.trans (hb34.mono HB3.out.size))
      have HR4 := Lib.hid hr4
      have hs4 := HSt.out.below hb34
      have HS4 := Lib.hid hs4
      have HLm := Lib.hid (And.intro hLm (And.intro hLl hL))
      have hL30 : L.length ≤ 30 := by have := HL.out; omega
      clear hr4 hb4 hb34 hs4 SC lS hLm hLl hL hnm
      go_wp2_with (fail)
      go_loopw [11, 13, 40] (fun v11 v13 v wr => ∃ (j : Nat) (A5 : Option Addr) (c5 : Nat), j ≤ L.length ∧ v = .int .i64 j ∧ v11 = .slice A5 j c5 ∧ Hid (wr.ownsRow w4.heap.size 32 2 (.slice A5 j c5) j (pks ((L.take j).map (verF r))) ∧ Below w4.heap.size w4 wr)) (fun _ _ v _ => L.length - (intOf v).toNat)
      case atStart => exact ⟨0, none, 0, Nat.zero_le _, rfl, rfl, World.ownsRow_nil _ _ _ _, Below.refl _ _⟩
      case round =>
        obtain ⟨j, A5, c5, hj, rfl, rfl, HI⟩ := hrel
        by_cases hlt : j < L.length
        · obtain ⟨b1, o1, u, rfl, _, hu, p0⟩ := (HR4.out.keep (Same.any HI.out.2)).at_ hlt
          have hn := HLm.out.1 _ (List.getElem_mem hlt)
          have htk : (L.take (j + 1)).map (verF r) = (L.take j).map (verF r) ++ [verF r L[j]] := by rw [List.take_succ_eq_append_getElem hlt, List.map_append]; rfl
          rw [List.getElem?_map, List.getElem?_eq_getElem hlt, Option.map_some] at hu
          injection hu with hu
          subst hu
          generalize L[j] = n at p0 hn htk
          obtain ⟨m, hm1, hm2, hm3⟩ := hn
          have hver : verF r n = (n, m.ver) := by unfold verF; rw [hm2]; rfl
          rw [hver] at htk
          have hun : n.length ≤ 65536 := by
            obtain ⟨c, e, _⟩ := HM.out.nm m hm1
            rw [← hm3, e]
            simp
          have hsr := HS4.out.below HI.out.2
          have x2 := hsr.blk.cell 2
          have lSr := hsr.blk.lt
          simp only [List.getElem?_cons_zero, List.getElem?_cons_succ] at x2
          obtain ⟨v, hv, Av, nv, cv, hve⟩ := (HPr.out.get n).2 m hm2
          have lk : (Instr.lookup 42 (.map (some PK)) (str n) false).run Tryd.prog wr = .ok v wr := by
            have := hsr.mp.lookup enc_S Tryd.underlying42 zero_md (a := n) hun false
            rw [hv] at this
            exact this
          subst hve
          have hmv := (HM.out.vr m hm1).2
          have fd : ∀ W : World, (Instr.field 52 (.agg #[str m.name, .int .i64 (m.ver : Nat), .slice Av nv cv]) 1).run Tryd.prog W = .ok (.int .i64 (m.ver : Nat)) W := fun W => by kernel_rfl
          have HTk := Lib.hid htk
          clear hm1 hm2 hm3 hver hun hsr hv htk
          go_wp2_with (at_builtin; refine app_pk _ rfl (.tmp 44) (.tmp 54) _ Tryd.underlying23 rfl (HI.out.1.alloc _) rfl (Reads.new wr (pkc (n, m.ver)) 2 1 32 Any trivial rfl) rfl (by simp [pkc, Value.oneCell']) (by omega) (by have := HI.out.2.size; simp; omega) ?_; intro v5 w5 hown5 hg5 hat5; obtain ⟨A9, c9, rfl, _⟩ := own_form hown5)
          have hown6 : w5.ownsRow w4.heap.size 32 2 (.slice A9 (j + 1) c9) (j + 1) (pks ((L.take (j + 1)).map (verF r))) := by
            rw [HTk.out, pks_append, pks_one]
            exact hown5
          have hb6 : Below w4.heap.size w4 w5 := HI.out.2.grown (grown_of_alloc hg5) HI.out.2.size (fun k hk => (HI.out.1.lt k hk).1)
          have fin : Hid (w5.ownsRow w4.heap.size 32 2 (.slice A9 (j + 1) c9) (j + 1) (pks ((L.take (j + 1)).map (verF r))) ∧ Below w4.heap.size w4 w5) := ⟨hown6, hb6⟩
          clear hown5 hg5 hat5 hown6 hb6
          go_wp2_with (fail)
          exact ⟨⟨j + 1, A9, c9, by omega, by go_num, rfl, fin⟩, by simp [intOf]; omega⟩
        · obtain rfl : j = L.length := by omega
          have hown := HI.out.1
          rw [List.take_length] at hown
          obtain ⟨y1, y2, y3⟩ := own_reads (by omega) hown
          have hpk : picksF r = L.map (verF r) := by rw [HLm.out.2.2]; rfl
          have HPk := Lib.hid hpk
          have HY := Lib.hid (And.intro y1 (And.intro y2 y3))
          clear hown y1 y2 y3 hpk
          go_wp2_with (fail)
          go_ret2
          refine ⟨HB4.out.trans (HI.out.2.mono HB4.out.size), fun h => (by cases h), fun l hl => ?_⟩
          injection hl with hl
          subst hl
          rw [HPk.out]
          refine ⟨A5, c5, by simp, by simpa using HY.out.1, HY.out.2.1, ?_⟩
          have := HY.out.2.2.imp (D' := fun b => w.heap.size ≤ b) (by omega) fun b hb _ => Nat.le_trans HB4.out.size hb
          simpa using this
end Go.Proofs.YtpdjeaiojfghnaaDoor
