/- Contract of lock.Turns at selections that may be. -/
import Derived.Test.YtijniccmgjokoaaLkTurn0
set_option linter.unusedVariables false
namespace Go.Proofs.Ytijniccmgjokoaa
open Go.RowKit Go.Mem Go.Sv Go.Maps
/-- what Turns hands back -/
def TurnsPost (w : World) (a b : List Pk) : Ending → World → Prop := fun e w' => Below w.heap.size w w' ∧ ∃ A c ts, e = .returned (.tuple #[.slice A (List.length ts) c, .int .i64 0]) ∧ TurnsOk a b ts ∧ ts.length ≤ 60 ∧ Reads w' Any 3 A ts.length (trs ts)
/-- the map on its way -/
def AtT (w wr : World) (M : Nat) (a b : List Pk) (k : Nat) : Prop := ∃ L, MapOf str okS wr M L ∧ GetT a b L ∧ L.length ≤ k ∧ Below w.heap.size w wr
theorem reads_new2 (w : World) (o : Obj) (cs : List Value) (size n : Nat) (e : TypeId) (hl : cs.length = n * size) : Reads ((w.alloc o).alloc (.cells cs.toArray e)) Any size (some ⟨w.heap.size + 1, 0, none⟩) n cs := by
  have := Reads.new (D := Any) (w.alloc o) cs size n e trivial hl
  simpa using this
theorem _root_.Go.Mem.MapOf.oks {ok : Nm → Prop} {w : World} {b : Nat} {l : List (Nm × Value)} (h : MapOf str ok w b l) : ∀ n ∈ l.map (·.1), ok n := by
  obtain ⟨es, clock, h1, h2, h3, h4⟩ := h
  intro n hn
  obtain ⟨p, hp, rfl⟩ := List.mem_map.1 hn
  exact h4 p hp
theorem okS_letter {n : Nm} (h : Letter n) : okS n := by
  obtain ⟨c, e, _⟩ := h
  rw [e]
  show 1 ≤ 65536
  omega
set_option maxRecDepth 100000 in
set_option maxHeartbeats 2000000 in
theorem turns_any (w : World) (A1 : Option Addr) (n1 c1 : Nat) (a : List Pk) (A2 : Option Addr) (n2 c2 : Nat) (b : List Pk) (h1 : Reads w Any 2 A1 n1 (pks a)) (hn1 : n1 = a.length) (ha : PkOk a) (h2 : Reads w Any 2 A2 n2 (pks b)) (hn2 : n2 = b.length) (hb : PkOk b) :
    Calls Try.prog 10 #[.slice A1 n1 c1, .slice A2 n2 c2] w (TurnsPost w a b) := by
  have l1 : n1 ≤ 30 := by have := ha.ln; omega
  have l2 : n2 ≤ 30 := by have := hb.ln; omega
  have hm1 := @run_makeMap Try.prog
  have CK := Lib.hid (fun A n c (l : List Pk) (W : World) (hr : Reads W Any 2 A n (pks l)) (hn : n = l.length) (h : PkOk l) => lkcheck_any A n c l W hr hn h)
  have H1 := Lib.hid (And.intro h1 (And.intro hn1 ha))
  have H2 := Lib.hid (And.intro h2 (And.intro hn2 hb))
  clear h1 hn1 ha h2 hn2 hb
  go_enter Try.func10, Try.ntmps10
  go_wp2_with (fail)
  have hba : Below w.heap.size w (w.alloc (.map #[] 0)) := (Below.refl _ _).alloc (Nat.le_refl _) _
  have hma : MapOf str okS (w.alloc (.map #[] 0)) w.heap.size ([] : List (Nm × Value)) := MapOf.new w
  refine (CK.out A1 n1 c1 a _ (H1.out.1.keep (Same.any hba)) H1.out.2.1 H1.out.2.2).mono ?_
  rintro e w1 ⟨rfl, hb1⟩
  obtain ⟨M, hM⟩ : ∃ M, M = w.heap.size := ⟨_, rfl⟩
  have HA1 := Lib.hid (show AtT w w1 M [] [] 0 ∧ w.heap.size ≤ M from ⟨⟨[], by rw [hM]; exact hma.below hb1, GetT.nil, by simp, hba.trans (hb1.mono hba.size)⟩, by omega⟩)
  clear hma hba hb1 hm1
  rw [← hM]
  clear hM
  go_wp2_with (fail)
  refine (CK.out A2 n2 c2 b _ (H2.out.1.keep (Same.any (by obtain ⟨⟨L, h1, h2, h3, h4⟩, _⟩ := HA1.out; exact h4))) H2.out.2.1 H2.out.2.2).mono ?_
  rintro e w2 ⟨rfl, hb2⟩
  have HA2 := Lib.hid (show AtT w w2 M [] [] 0 by obtain ⟨⟨L, h1, h2, h3, h4⟩, _⟩ := HA1.out; exact ⟨L, h1.below hb2, h2, h3, h4.trans (hb2.mono h4.size)⟩)
  clear hb2 CK
  go_wp2_with (fail)
  go_loopw [30] (fun v wr => ∃ j : Nat, j ≤ n1 ∧ v = .int .i64 j ∧ Hid (AtT w wr M (a.take j) [] j)) (fun v _ => n1 - (intOf v).toNat)
  case atStart => exact ⟨0, Nat.zero_le _, rfl, HA2.out⟩
  case round =>
    obtain ⟨j, hj, rfl, HI⟩ := hrel
    by_cases hlt : j < n1
    · obtain ⟨L, hL, hG, hLl, hb⟩ := HI.out
      have hjl : j < a.length := by have := H1.out.2.1; omega
      obtain ⟨b1, o1, rfl, _, p0, p1⟩ := pks_cells (H1.out.1.keep (Same.any hb)) hlt H1.out.2.1
      have hok := okS_letter (H1.out.2.2.nm _ (List.getElem_mem hjl))
      have hnx := hG.put1 (asc_take H1.out.2.2.asc hjl)
      have htk : a.take (j + 1) = a.take j ++ [a[j]] := List.take_succ_eq_append_getElem hjl
      generalize a[j] = y at p0 p1 hok hnx htk
      obtain ⟨yn, yv⟩ := y
      simp only at p0 p1 hok hnx
      have HG := Lib.hid (And.intro hnx (And.intro htk hok))
      have HL := Lib.hid (And.intro hL (And.intro hb hLl))
      clear hok hnx htk hL hG hLl hb
      go_wp2_with (refine wpList_mupdate _ rfl (.tmp 34) (.tmp 36) (.tmp 41) _ rfl enc_S Try.underlying58 (b := M) (key := yn) rfl (by exact HL.out.1.alloc _) rfl HG.out.2.2 ?_; intro w3 hm3 hg3; have fin := Lib.hid (show AtT w w3 M (a.take (j + 1)) [] (j + 1) from ⟨_, hm3, by rw [HG.out.2.1]; exact HG.out.1, Nat.le_trans (mput_le _ _ _) (by have := HL.out.2.2; omega), (HL.out.2.1.alloc HL.out.2.1.size _).grown hg3 (by have := HL.out.2.1.size; simp; omega) (fun k hk => by injection hk with hk; have := HA1.out.2; omega)⟩); clear hm3 hg3)
      exact ⟨⟨j + 1, by omega, by go_num, fin⟩, by simp [intOf]; omega⟩
    · obtain rfl : j = n1 := by omega
      have HA3 := Lib.hid (show AtT w wr M a [] j by have := HI.out; rwa [List.take_of_length_le (by have := H1.out.2.1; omega)] at this)
      clear HI HA2
      go_wp2_with (fail)
      go_loopw [45] (fun v wr => ∃ i : Nat, i ≤ n2 ∧ v = .int .i64 i ∧ Hid (AtT w wr M a (b.take i) (j + i))) (fun v _ => n2 - (intOf v).toNat)
      case atStart => exact ⟨0, Nat.zero_le _, rfl, HA3.out⟩
      case round =>
        obtain ⟨i, hi, rfl, HI⟩ := hrel
        by_cases hlt2 : i < n2
        · obtain ⟨L, hL, hG, hLl, hb⟩ := HI.out
          have hil : i < b.length := by have := H2.out.2.1; omega
          obtain ⟨b1, o1, rfl, _, p0, p1⟩ := pks_cells (H2.out.1.keep (Same.any hb)) hlt2 H2.out.2.1
          have hok := okS_letter (H2.out.2.2.nm _ (List.getElem_mem hil))
          have hnx := hG.put2 (asc_take H2.out.2.2.asc hil)
          have htk : b.take (i + 1) = b.take i ++ [b[i]] := List.take_succ_eq_append_getElem hil
          generalize b[i] = y at p0 p1 hok hnx htk
          obtain ⟨yn, yv⟩ := y
          simp only at p0 p1 hok hnx
          obtain ⟨m9, v9, hold⟩ := hG.old yn
          have lk := fun o => ((hL.alloc o).lookup enc_S Try.underlying58 zero_tr (a := yn) hok false)
          rw [hold] at lk
          generalize vOf a yn = q9 at lk hnx
          have fd : ∀ W : World, (Instr.field 34 (.agg #[str m9, .int .i64 (q9 : Nat), .int .i64 (v9 : Nat)]) 1).run Try.prog W = .ok (.int .i64 (q9 : Nat)) W := fun W => by kernel_rfl
          have LK := lk (.cells #[str yn, .int .i64 (yv : Nat)] 27)
          unfold trv at LK
          have HG := Lib.hid (And.intro hnx (And.intro htk hok))
          have HL := Lib.hid (And.intro hL (And.intro hb hLl))
          clear hok hnx htk hL hG hLl hb lk hold
          go_wp2_with (refine wpList_mupdate _ rfl (.tmp 49) (.tmp 51) (.tmp 61) _ rfl enc_S Try.underlying58 (b := M) (key := yn) rfl (by exact HL.out.1.alloc _) rfl HG.out.2.2 ?_; intro w3 hm3 hg3; have fin := Lib.hid (show AtT w w3 M a (b.take (i + 1)) (j + (i + 1)) from ⟨_, hm3, by rw [HG.out.2.1]; exact HG.out.1, Nat.le_trans (mput_le _ _ _) (by have := HL.out.2.2; omega), (HL.out.2.1.alloc HL.out.2.1.size _).grown hg3 (by have := HL.out.2.1.size; simp; omega) (fun k hk => by injection hk with hk; have := HA1.out.2; omega)⟩); clear hm3 hg3)
          exact ⟨⟨i + 1, by omega, by go_num, fin⟩, by simp [intOf]; omega⟩
        · obtain rfl : i = n2 := by omega
          have hA4 : AtT w wr M a b (j + i) := by have := HI.out; rwa [List.take_of_length_le (by have := H2.out.2.1; omega)] at this
          obtain ⟨L, hL, hG, hLl, hb⟩ := hA4
          clear HI HA3
          go_wp2_with (fail)
          have hN : ∃ N, N = sorted (L.map (·.1)) := ⟨_, rfl⟩
          obtain ⟨N, hN⟩ := hN
          have hNl : N.length = L.length := by rw [hN, (sorted_perm' _).length_eq, List.length_map]
          have hNd : N.Nodup := by rw [hN]; exact sorted_nodup (MapOf.keys enc_S hL)
          have hNm : ∀ n, n ∈ N ↔ n ∈ L.map (·.1) := fun n => by rw [hN]; exact (sorted_perm' _).mem_iff
          have SC := sortedLC M L wr hL (by omega)
          rw [← hN, ← hNl] at SC
          have SC := Lib.hid SC
          have hN60 : N.length ≤ 60 := by omega
          have HL := Lib.hid (And.intro hL (And.intro hG hb))
          have HN := Lib.hid (And.intro hNd hNm)
          clear hN hNl hNd hNm hL hG hb hLl
          refine (keysLC (some M) wr).mono ?_
          rintro e w4 ⟨rfl, rfl⟩
          go_wp2_with (fail)
          refine SC.out.mono ?_
          rintro e w5 ⟨A4, c4, rfl, hr4, hb4⟩
          have hb45 : Below wr.heap.size wr w5 := ((Below.refl _ _).alloc (Nat.le_refl _) _).trans (hb4.mono (by simp))
          have HR4 := Lib.hid hr4
          have HL5 := Lib.hid (show MapOf str okS w5 M L ∧ GetT a b L ∧ Below w.heap.size w w5 from ⟨HL.out.1.below hb45, HL.out.2.1, HL.out.2.2.trans (hb45.mono HL.out.2.2.size)⟩)
          clear hr4 hb4 hb45 SC HL
          go_wp2_with (fail)
          go_loopw [13, 15, 67] (fun v13 _ v wr => ∃ (k : Nat) (A5 : Option Addr) (c5 m : Nat), k ≤ N.length ∧ v = .int .i64 k ∧ v13 = .slice A5 m c5 ∧ m ≤ k ∧ Hid (m = (turnsF a b (N.take k)).length ∧ wr.ownsRow w5.heap.size 34 3 (.slice A5 m c5) m (trs (turnsF a b (N.take k))) ∧ Below w5.heap.size w5 wr)) (fun _ _ v _ => N.length - (intOf v).toNat)
          case atStart => exact ⟨0, none, 0, 0, Nat.zero_le _, rfl, rfl, Nat.le_refl _, rfl, World.ownsRow_nil _ _ _ _, Below.refl _ _⟩
          case round =>
            rename World => wq
            obtain ⟨k, A5, c5, m, hk, rfl, rfl, hmk, HI⟩ := hrel
            by_cases hlt3 : k < N.length
            · obtain ⟨b1, o1, u, rfl, _, hu, p0⟩ := (HR4.out.keep (Same.any HI.out.2.2)).at_ hlt3
              rw [List.getElem?_map, List.getElem?_eq_getElem hlt3, Option.map_some] at hu
              injection hu with hu
              subst hu
              have hmem := (HN.out.2 _).1 (List.getElem_mem hlt3)
              have htk := turnsF_take (a := a) (b := b) hlt3
              generalize N[k] = nm at p0 hmem htk
              have hok : okS nm := (HL5.out.1.oks) nm hmem
              have lk := ((HL5.out.1.below HI.out.2.2).lookup enc_S Try.underlying58 zero_tr (a := nm) hok false)
              rw [HL5.out.2.1.in hmem] at lk
              generalize vOf a nm = q at lk htk
              generalize vOf b nm = r at lk htk
              simp only [Option.getD_some] at lk
              unfold trv at lk
              have hbs := HI.out.2.2.size
              have HT := Lib.hid htk
              clear hok hmem htk
              by_cases e : q = r
              · subst e
                have fin := Lib.hid (show m = (turnsF a b (N.take (k + 1))).length ∧ (wq.alloc (.cells #[str nm, .int .i64 (q : Nat), .int .i64 (q : Nat)] 34)).ownsRow w5.heap.size 34 3 (.slice A5 m c5) m (trs (turnsF a b (N.take (k + 1)))) ∧ Below w5.heap.size w5 (wq.alloc (.cells #[str nm, .int .i64 (q : Nat), .int .i64 (q : Nat)] 34)) by
                  rw [HT.out, if_pos rfl]
                  exact ⟨HI.out.1, HI.out.2.1.alloc _, HI.out.2.2.alloc hbs _⟩)
                go_wp2_with (fail)
                exact ⟨⟨k + 1, A5, c5, m, by omega, by go_num, rfl, by omega, fin⟩, by simp [intOf]; omega⟩
              · have g1 : ((q : Int) == (r : Int)) = false := by simp; omega
                have g2 : (q == r) = false := by simp [e]
                have HE := Lib.hid e
                clear e
                go_wp2_with (at_builtin; refine app_tr _ rfl (.tmp 79) (.tmp 81) rfl ((HI.out.2.1.alloc (.cells (trc (nm, q, r)).toArray 34)).alloc (.cells (trc (nm, q, r)).toArray 34)) rfl (reads_new2 wq (.cells (trc (nm, q, r)).toArray 34) (trc (nm, q, r)) 3 1 34 rfl) rfl (by simp [trc, Value.oneCell']) (by omega) (by simp; omega) ?_; intro v7 w7 hown7 hg7 hat7; obtain ⟨A6, c6, rfl, _⟩ := own_form hown7; have fin := Lib.hid (show m + 1 = (turnsF a b (N.take (k + 1))).length ∧ w7.ownsRow w5.heap.size 34 3 (.slice A6 (m + 1) c6) (m + 1) (trs (turnsF a b (N.take (k + 1)))) ∧ Below w5.heap.size w5 w7 from (by rw [HT.out, if_neg HE.out, trs_append, trs_one, List.length_append, List.length_singleton, ← HI.out.1]; exact ⟨rfl, hown7, HI.out.2.2.grown (grown_of_alloc (grown_of_alloc hg7)) hbs (fun k hk => (HI.out.2.1.lt k hk).1)⟩)); clear hown7 hg7 hat7)
                exact ⟨⟨k + 1, A6, c6, m + 1, by omega, by go_num, rfl, by omega, fin⟩, by simp [intOf]; omega⟩
            · have hfull : N.take k = N := List.take_of_length_le (by omega)
              have HF := Lib.hid hfull
              clear hfull
              go_wp2_with (fail)
              go_ret2
              have h9 := HI.out
              rw [HF.out] at h9
              obtain ⟨h10, h11, h12⟩ := h9
              obtain ⟨_, _, q3⟩ := own_reads (by omega) h11
              refine ⟨HL5.out.2.2.trans (h12.mono HL5.out.2.2.size), A5, c5, turnsF a b N, by rw [← h10]; rfl, turnsF_ok HN.out.1 (fun n hn => HL5.out.2.1.out (fun h => hn ((HN.out.2 n).2 h))), by omega, ?_⟩
              rw [← h10]
              exact q3.imp (by omega) fun _ _ _ => trivial
end Go.Proofs.Ytijniccmgjokoaa
