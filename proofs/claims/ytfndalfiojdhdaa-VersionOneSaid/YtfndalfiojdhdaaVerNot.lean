/- Contracts of version.not, version.Not, checkBoth at sets. -/
import Derived.Test.YtfndalfiojdhdaaVerChk
import Derived.Outline
set_option linter.unusedVariables false
namespace Go.Ver
theorem notGo_nil (nx : Nat) : notGo nx [] = if nx ≤ 9999 then [(nx, 9999)] else [] := rfl
theorem notGo_cons (nx : Nat) (r : Rg) (t : List Rg) : notGo nx (r :: t) = (if nx < r.1 then [(nx, r.1 - 1)] else []) ++ notGo (r.2 + 1) t := rfl
end Go.Ver
namespace Go.Proofs.Ytfndalfiojdhdaa
open Go.RowKit Go.Mem Go.Ver
/-- a row of the call's own that holds ranges -/
def OwnR (w0 w : World) (l : List Rg) (A : Option Addr) (c : Nat) : Prop := w.ownsRow w0.heap.size 34 2 (.slice A l.length c) l.length (rgs l) ∧ Below w0.heap.size w0 w
theorem OwnR.nil (w : World) : OwnR w w [] none 0 := ⟨World.ownsRow_nil _ _ _ _, Below.refl _ _⟩
theorem OwnR.holds {w0 w : World} {l : List Rg} {A : Option Addr} {c : Nat} (h : OwnR w0 w l A c) : Ver.Holds w l A c := by
  obtain ⟨h1, h2, h3⟩ := own_reads (by omega) h.1
  exact ⟨h1, h2, h3.imp (by omega) fun _ _ _ => trivial⟩
theorem OwnR.alloc {w0 w : World} {l : List Rg} {A : Option Addr} {c : Nat} (h : OwnR w0 w l A c) (o : Obj) : OwnR w0 (w.alloc o) l A c := ⟨h.1.alloc o, h.2.alloc h.2.size o⟩
theorem OwnR.app {w0 w w' : World} {l : List Rg} {A A' : Option Addr} {c c' : Nat} {r : Rg} (h : OwnR w0 w l A c) (hown : w'.ownsRow w0.heap.size 34 2 (.slice A' (l.length + 1) c') (l.length + 1) (rgs l ++ rgc r)) (hg : w.grownBy w' (Value.slice A l.length c).ownBlock) : OwnR w0 w' (l ++ [r]) A' c' := by
  refine ⟨?_, h.2.grown hg h.2.size fun k hk => (h.1.lt k hk).1⟩
  rw [rgs_append, rgs_one]
  simpa using hown
theorem reads_new2 (w : World) (o : Obj) (cs : List Value) (size n : Nat) (e : TypeId) (hl : cs.length = n * size) : Reads ((w.alloc o).alloc (.cells cs.toArray e)) Any size (some ⟨w.heap.size + 1, 0, none⟩) n cs := by
  have := Reads.new (D := Any) (w.alloc o) cs size n e trivial hl
  simpa using this
theorem OwnR.drew {w0 w : World} {l : List Rg} {A : Option Addr} {c : Nat} (h : OwnR w0 w l A c) : OwnR w0 w.drew l A c := ⟨h.1.drew, ⟨h.2.os, h.2.tape, h.2.output, h.2.size, h.2.block⟩⟩

set_option maxRecDepth 100000 in
set_option maxHeartbeats 1000000 in
theorem not_any (A : Option Addr) (n c : Nat) (l : List Rg) (w : World) (hr : Reads w Any 2 A n (rgs l)) (hn : n = l.length) (h : Ok l) (h50 : n ≤ 50) :
    Calls Try.prog 18 #[.slice A n c] w fun e w' => ∃ A c, e = .returned (.slice A (notF l).length c) ∧ Ver.Holds w' (notF l) A c ∧ Below w.heap.size w w' := by
  have Hn := Lib.hid hn
  have H := Lib.hid h
  clear hn h
  generalize hN : notF l = N
  have HN := Lib.hid hN
  clear hN
  go_enter Try.func18, Try.ntmps18
  go_wp2_with (fail)
  go_loopw [3, 4, 9] (fun v3 v4 v wr => ∃ (j nx m : Nat) (A1 : Option Addr) (c1 : Nat) (acc : List Rg), j ≤ n ∧ v = .int .i64 j ∧ v4 = .int .i64 (nx : Nat) ∧ v3 = .slice A1 m c1 ∧ 1 ≤ nx ∧ nx ≤ 10000 ∧ m ≤ j ∧ Hid (m = acc.length ∧ N = acc ++ notGo nx (l.drop j) ∧ OwnR w wr acc A1 c1)) (fun _ _ v _ => n - (intOf v).toNat)
  case atStart => exact ⟨0, 1, 0, none, 0, [], Nat.zero_le _, rfl, rfl, rfl, by omega, by omega, by omega, rfl, by simpa [notF] using HN.out.symm, OwnR.nil w⟩
  case round =>
    obtain ⟨j, nx, m, A1, c1, acc, hj, rfl, rfl, rfl, hx1, hx2, hm, HI⟩ := hrel
    by_cases hlt : j < n
    · obtain ⟨b1, o1, rfl, _, r0, r1⟩ := rgs_cells hr hlt Hn.out
      have hb := HI.out.2.2.2
      have p0 := (Same.any (D := Any) hb).cell trivial r0
      have p1 := (Same.any (D := Any) hb).cell trivial r1
      have hl : j < l.length := by have := Hn.out; omega
      have hd : l.drop j = l[j] :: l.drop (j + 1) := List.drop_eq_getElem_cons hl
      have hright := H.out.1 _ (List.getElem_mem hl)
      generalize l[j] = y at p0 p1 hd hright
      obtain ⟨y0, y1⟩ := y
      obtain ⟨q1, q2, q3⟩ := hright
      simp only at p0 p1 q1 q2 q3
      have HD := Lib.hid hd
      clear r0 r1 hr hb hd
      by_cases hc : nx < y0
      · have e1 : IntKind.i64.wrap ((y0 : Int) - 1) = ((y0 - 1 : Nat) : Int) := (IntWalk.i64_in _ (by omega)).trans (by omega)
        have hown : OwnR w (wr.alloc (.cells #[.int .i64 (y0 : Nat), .int .i64 (y1 : Nat)] 34)) acc A1 c1 := HI.out.2.2.alloc _
        have hm1 : m = acc.length := HI.out.1
        subst hm1
        have HO := Lib.hid hown
        have Hne := Lib.hid (show (Value.slice A1 acc.length c1).ownBlock ≠ some wr.heap.size from fun e => by have := (HI.out.2.2.1.lt _ e).2; omega)
        clear hown
        go_wp2_with (at_builtin; refine app_rg _ rfl (.tmp 17) (.tmp 23) rfl (HO.out.1.alloc _) rfl (reads_new2 _ _ (rgc (nx, y0 - 1)) 2 1 34 rfl) rfl (by simp [rgc, Value.oneCell']) (by omega) (by have := HO.out.2.size; simp at this ⊢; omega) ?_; intro v2 w2 hown2 hg2 hat2; obtain ⟨A9, c9, rfl, _⟩ := own_form hown2; have hkp := ((Blk.new wr 34 [.int .i64 (y0 : Nat), .int .i64 (y1 : Nat)]).alloc _).grown hg2 (fun e => Hne.out e.symm); have k1 : w2.cell? ⟨wr.heap.size, 1, none⟩ = some (.int .i64 (y1 : Nat)) := hkp.cell 1; have lD := hkp.lt)
        have h2 := (HO.out.alloc _).app (r := (nx, y0 - 1)) hown2 hg2
        refine ⟨⟨j + 1, y1 + 1, acc.length + 1, A9, c9, acc ++ [(nx, y0 - 1)], by omega, by go_num, by simp, rfl, by omega, by omega, by omega, by simp, ?_, h2⟩, by simp [intOf]; omega⟩
        rw [HI.out.2.1, HD.out, notGo_cons, if_pos hc]
        simp
      · have hown : OwnR w (wr.alloc (.cells #[.int .i64 (y0 : Nat), .int .i64 (y1 : Nat)] 34)) acc A1 c1 := HI.out.2.2.alloc _
        have HO := Lib.hid hown
        clear hown
        go_wp2_with (fail)
        refine ⟨⟨j + 1, y1 + 1, m, A1, c1, acc, by omega, by go_num, by simp, rfl, by omega, by omega, by omega, HI.out.1, ?_, HO.out⟩, by simp [intOf]; omega⟩
        rw [HI.out.2.1, HD.out, notGo_cons, if_neg hc]
        simp
    · have hd : l.drop j = [] := List.drop_of_length_le (by have := Hn.out; omega)
      have h1 := HI.out.2.1
      rw [hd, notGo_nil] at h1
      have Hfin := Lib.hid h1
      have hm1 : m = acc.length := HI.out.1
      subst hm1
      have HO := Lib.hid HI.out.2.2
      clear hd h1 hr HI
      by_cases hc : nx ≤ 9999
      · go_wp2_with (at_builtin; refine app_rg _ rfl (.tmp 31) (.tmp 34) rfl (HO.out.1.alloc _) rfl (Reads.new (D := Any) _ (rgc (nx, 9999)) 2 1 34 trivial rfl) rfl (by simp [rgc, Value.oneCell']) (by omega) (by have := HO.out.2.size; simp; omega) ?_; intro v2 w2 hown2 hg2 hat2; obtain ⟨A9, c9, rfl, _⟩ := own_form hown2)
        have h2 := (HO.out.alloc _).app (r := (nx, 9999)) hown2 hg2
        have hfin := Hfin.out
        rw [if_pos hc] at hfin
        go_ret
        rw [hfin]
        exact ⟨A9, c9, by simp, h2.holds, h2.2⟩
      · have hfin := Hfin.out
        rw [if_neg hc, List.append_nil] at hfin
        have HF := Lib.hid hfin
        clear hfin
        go_wp2_with (fail)
        go_ret
        rw [HF.out]
        exact ⟨A1, c1, rfl, HO.out.holds, HO.out.2⟩

set_option maxRecDepth 100000 in
/-- version.Not of a set -/
theorem notN_any (A : Option Addr) (n c : Nat) (l : List Rg) (w : World) (hr : Reads w Any 2 A n (rgs l)) (hn : n = l.length) (h : Ok l) (h50 : n ≤ 49) :
    Calls Try.prog 10 #[.slice A n c] w (RgPost w (notF l)) := by
  have C1 := Lib.hid (check_any A n c l w hr hn h (by omega))
  have C2 := Lib.hid (fun w' (hr : Reads w' Any 2 A n (rgs l)) => not_any A n c l w' hr hn h (by omega))
  have hlen : (notF l).length ≤ 50 := by have := (notF_spec h).2.2; omega
  have HR := Lib.hid hr
  generalize notF l = N at C2 hlen ⊢
  unfold RgPost
  clear hn h hr
  go_enter Try.func10, Try.ntmps10
  go_wp2_with (fail)
  refine C1.out.mono ?_
  rintro e w1 ⟨rfl, hb1⟩
  have C3 := Lib.hid (C2.out w1 (HR.out.keep (Same.any hb1)))
  have HB := Lib.hid hb1
  clear C2 hb1
  go_wp2_with (fail)
  refine C3.out.mono ?_
  rintro e w2 ⟨A2, c2, rfl, hh, hb2⟩
  have HH := Lib.hid hh
  have HB2 := Lib.hid (HB.out.trans (hb2.mono HB.out.size))
  clear hh hb2
  go_wp2_with (fail)
  refine (limited_any A2 N.length c2 w2 hlen).mono ?_
  rintro e w3 ⟨rfl, rfl⟩
  go_wp2_with (fail)
  go_ret2
  exact ⟨A2, c2, rfl, HH.out, HB2.out⟩

set_option maxRecDepth 100000 in
theorem checkBoth_any (A B : Option Addr) (n c m d : Nat) (a b : List Rg) (w : World) (hr : Reads w Any 2 A n (rgs a)) (hn : n = a.length) (h : Ok a) (hs : Reads w Any 2 B m (rgs b)) (hm : m = b.length) (k : Ok b) (h50 : n ≤ 50) (k50 : m ≤ 50) :
    Calls Try.prog 15 #[.slice A n c, .slice B m d] w fun e w' => e = .returned (.int .i64 0) ∧ Below w.heap.size w w' := by
  have C1 := Lib.hid (check_any A n c a w hr hn h (by omega))
  have C2 := Lib.hid (fun w' (hr : Reads w' Any 2 B m (rgs b)) => check_any B m d b w' hr hm k (by omega))
  have HR := Lib.hid hs
  clear hr hn h hs hm k
  go_enter Try.func15, Try.ntmps15
  go_wp2_with (fail)
  refine C1.out.mono ?_
  rintro e w1 ⟨rfl, hb1⟩
  have C3 := Lib.hid (C2.out w1 (HR.out.keep (Same.any hb1)))
  have HB := Lib.hid hb1
  clear C2 hb1
  go_wp2_with (fail)
  refine C3.out.mono ?_
  rintro e w2 ⟨rfl, hb2⟩
  go_wp2_with (fail)
  go_ret
  exact ⟨rfl, HB.out.trans (hb2.mono HB.out.size)⟩
end Go.Proofs.Ytfndalfiojdhdaa
