/- Contract of package replay's Play. -/
import Derived.Test.YtlpkgheggbcidaaDoorRpTake
set_option linter.unusedVariables false
namespace Go.Rp
open Go.Mem Go.RowKit
/-- what a run has come to behind its first k picks -/
structure PlayTo (s : Wd) (ps : List Int) (k : Nat) (s' : Wd) (out : List Ch) : Prop where
  eq : playF s ps = ((playF s' (ps.drop k)).1, out ++ (playF s' (ps.drop k)).2)
  len : out.length = k
theorem PlayTo.start (s : Wd) (ps : List Int) : PlayTo s ps 0 s [] := ⟨by simp, rfl⟩
theorem PlayTo.next {s s' : Wd} {ps : List Int} {k : Nat} {out : List Ch} (h : PlayTo s ps k s' out) (hk : k < ps.length) {c : Ch} (hc : (choicesF s')[(uns ps[k] % (choicesF s').length).toNat]? = some c) : PlayTo s ps (k + 1) (stepF s' c) (out ++ [c]) := by
  refine ⟨?_, by rw [List.length_append, h.len]; rfl⟩
  rw [h.eq, List.drop_eq_getElem_cons hk]
  simp only [playF, hc, List.append_assoc, List.singleton_append]
theorem PlayTo.stop {s s' : Wd} {ps : List Int} {k : Nat} {out : List Ch} (h : PlayTo s ps k s' out) (hk : k < ps.length) (hc : choicesF s' = []) : playF s ps = (s', out) := by
  rw [h.eq, List.drop_eq_getElem_cons hk]
  simp [playF, hc]
theorem PlayTo.done {s s' : Wd} {ps : List Int} {out : List Ch} (h : PlayTo s ps ps.length s' out) : playF s ps = (s', out) := by
  rw [h.eq, List.drop_length]
  simp [playF]
end Go.Rp
namespace Go.Proofs.YtlpkgheggbcidaaDoor
open Go.RowKit Go.Mem Go.Rp Go.Maps
theorem WdAt.keep {w w' : World} {B T : Nat} {col col' : Nat → Cl} {s : Wd} (h : WdAt w B T col s) (hl : w.heap.size ≤ w'.heap.size) (hB : Same (fun b => b < B) w w') (hk : ∀ b, b < w.heap.size → col b ≠ .out → w'.heap[b]? = w.heap[b]? ∧ col' b = col b) (low : ∀ b, b < B → col' b = .out) : WdAt w' B T col' s := by
  obtain ⟨A, c, av, ps, M, l, sv, h⟩ := h
  exact ⟨_, _, _, _, _, _, _, h.keep hl hB hk low⟩
/-- a run under way: the world, and the row of what was chosen -/
structure RunAt (w wr : World) (B T : Nat) (col0 col : Nat → Cl) (s : Wd) (v : Value) (out : List Ch) : Prop where
  wd : WdAt wr B T col s
  st : Stp col0 col w wr
  row : Seg wr 36 3 v out.length (cat chC out)
  own : ∀ b, v.ownBlock = some b → col b = .out ∧ w.heap.size ≤ b
section
variable {w wr w2 : World} {B T : Nat} {col0 col col2 : Nat → Cl} {s s2 : Wd} {v v2 : Value} {out : List Ch}
theorem RunAt.start (h : WdAt w B T col0 s) : RunAt w w B T col0 col0 s (.slice none 0 0) [] := ⟨h, Stp.refl _ _, Seg.nil _ _ _, fun b hb => by simp [Value.ownBlock] at hb⟩
theorem WdAt.low (h : WdAt w B T col s) : ∀ b, b < B → col b = .out := by
  obtain ⟨A, c, av, ps, M, l, sv, h⟩ := h
  exact h.low
theorem WdAt.lB (h : WdAt w B T col s) : B ≤ w.heap.size := by
  obtain ⟨A, c, av, ps, M, l, sv, h⟩ := h
  exact h.lB
theorem WdAt.below (h : WdAt w B T col s) (hb : Below w.heap.size w w2) (k : Cl) : WdAt w2 B T (recol col w.heap.size k) s := by
  obtain ⟨A, c, av, ps, M, l, sv, h⟩ := h
  exact ⟨_, _, _, _, _, _, _, h.below hb k⟩
theorem RunAt.below (h : RunAt w wr B T col0 col s v out) (hb : Below wr.heap.size wr w2) : RunAt w w2 B T col0 (recol col wr.heap.size .out) s v out :=
  ⟨h.wd.below hb .out, h.st.trans (Stp.below hb .out), h.row.keep fun b hv => hb.block b (h.row.lt b hv), fun b hv => ⟨by rw [recol_old (h.row.lt b hv)]; exact (h.own b hv).1, (h.own b hv).2⟩⟩
theorem RunAt.step (h : RunAt w wr B T col0 col s v out) (hw : WdAt w2 B T col2 s2) (hs : Stp col col2 wr w2) : RunAt w w2 B T col0 col2 s2 v out :=
  ⟨hw, h.st.trans hs, h.row.keep fun b hv => hs.g.block b (h.row.lt b hv) (fun hc => hc (h.own b hv).1), fun b hv => ⟨(hs.c b (h.row.lt b hv)).2 (h.own b hv).1, (h.own b hv).2⟩⟩
/-- a choice has been put into the row -/
theorem RunAt.push (h : RunAt w wr B T col0 col s v out) (hB0 : B ≤ w.heap.size) {wa : World} (ha : Below wr.heap.size wr wa) (x : Ch) (hs : Seg w2 36 3 v2 (out.length + 1) (cat chC out ++ chC x)) (hg : wa.grownBy w2 v.ownBlock) (hat : ∀ b, v2.ownBlock = some b → v.ownBlock = some b ∨ wa.heap.size ≤ b) : RunAt w w2 B T col0 (recol col wr.heap.size .out) s v2 (out ++ [x]) := by
  have hblk : ∀ b, b < wr.heap.size → (∀ c, v.ownBlock = some c → b ≠ c) → w2.heap[b]? = wr.heap[b]? := fun b hb hn => (hg.block b (Nat.lt_of_lt_of_le hb ha.size) (fun e => hn b e.symm rfl)).trans (ha.block b hb)
  have hsz : wr.heap.size ≤ w2.heap.size := Nat.le_trans ha.size hg.size
  have hlow := h.wd.low
  have hlB := h.wd.lB
  have hst0 := h.st.g.size
  have nv : ∀ b, col b ≠ .out → ∀ c, v.ownBlock = some c → b ≠ c := fun b hb c hc e => hb (by rw [e]; exact (h.own c hc).1)
  refine ⟨h.wd.keep hsz (fun b hb hl => ?_) (fun b hl hc => ⟨hblk b hl (nv b hc), recol_old hl⟩) (fun b hb => by rw [recol_old (by omega)]; exact hlow b hb), ?_, ?_, fun b hb => ?_⟩
  · refine hblk b hl fun c hc e => ?_
    have := (h.own c hc).2
    have h0 : b < B := hb
    have := hB0
    omega
  · refine ⟨⟨hg.os.trans (ha.os.trans h.st.g.os), hg.tape.trans (ha.tape.trans h.st.g.tape), hg.output.trans (ha.output.trans h.st.g.output), Nat.le_trans h.st.g.size hsz, fun b hb hc => ?_⟩, fun b hb => ?_⟩
    · refine (hblk b (Nat.lt_of_lt_of_le hb hst0) fun c hv e => ?_).trans (h.st.g.block b hb hc)
      have := (h.own c hv).2
      omega
    · rw [recol_old (Nat.lt_of_lt_of_le hb hst0)]
      exact h.st.c b hb
  · rw [cat_app, cat_one, List.length_append, List.length_singleton]
    exact hs
  · rcases hat b hb with h1 | h1
    · rw [recol_old (h.row.lt b h1)]
      exact h.own b h1
    · have := ha.size
      exact ⟨recol_new (by omega), by omega⟩
end
def PlayPost (w : World) (B T : Nat) (col : Nat → Cl) (r : Wd × List Ch) (e : Ending) (w' : World) : Prop := ∃ A c col', e = .returned (.tuple #[.slice A r.2.length c, .int .i64 0]) ∧ WdAt w' B T col' r.1 ∧ Stp col col' w w' ∧ r.2.length ≤ c ∧ c ≤ maxLen ∧ Reads w' (fun b => col' b = .out ∧ w.heap.size ≤ b) 3 A r.2.length (cat chC r.2)
theorem play_end {w wr : World} {B T : Nat} {col0 col : Nat → Cl} {s' : Wd} {A : Option Addr} {N c : Nat} {out : List Ch} {r : Wd × List Ch} (h : RunAt w wr B T col0 col s' (.slice A N c) out) (hN : N = out.length) (hr : r = (s', out)) : PlayPost w B T col0 r (.returned (.tuple #[.slice A N c, .int .i64 0])) wr := by
  subst hN hr
  obtain ⟨A7, c7, e7, h1, h2, hr⟩ := h.row.reads
  injection e7 with e1 e2 e3
  subst e1 e3
  exact ⟨_, _, col, rfl, h.wd, h.st, h1, h2, hr.imp (by omega) fun b hb _ => h.own b hb⟩
set_option maxRecDepth 100000 in
set_option maxHeartbeats 8000000 in
theorem play_any (w : World) (B T : Nat) (col : Nat → Cl) (s : Wd) (h : WdAt w B T col s) {n : Nat} (hI : Inv s n) (PA : Option Addr) (pn pc : Nat) (ps : List Int) (hp : pn = ps.length) (hpn : pn ≤ 400) (hn : n ≤ 200000) (hr : Reads w (fun b => b < B) 1 PA pn (nums ps)) :
    Calls Tryd.prog 5 #[.pointer (some ⟨T, 0, none⟩), .slice PA pn pc] w (PlayPost w B T col (playF s ps)) := by
  have hB0 := h.lB
  have hS0 : (fun b => b < B) = fun b => b < B := rfl
  have low0 := h.low
  have H := Lib.hid (And.intro low0 (And.intro hr hp))
  have HI := Lib.hid hI
  have H0 := Lib.hid h
  clear h hI hr hp hS0 low0
  go_enter Tryd.func5, Tryd.ntmps5
  go_wp2_with (fail)
  go_loopw [6, 16] (fun v i wr => ∃ k : Nat, k ≤ pn ∧ i = .int .i64 k ∧ Hid (∃ s' out col', RunAt w wr B T col col' s' v out ∧ PlayTo s ps k s' out ∧ Inv s' (n + k))) (fun _ i _ => pn - (intOf i).toNat)
  case atStart => exact ⟨0, Nat.zero_le _, rfl, s, [], col, RunAt.start H0.out, PlayTo.start _ _, HI.out⟩
  case round =>
    obtain ⟨k, hk, rfl, hx⟩ := hrel
    obtain ⟨s', out, col', hR, hP, hI'⟩ := hx.out
    obtain ⟨A3, c3, rfl, _, _⟩ := hR.row.form
    obtain ⟨N, hN⟩ : ∃ N, N = out.length := ⟨_, rfl⟩
    rw [← hN] at hR hx ⊢
    have HN := Lib.hid hN
    have HR := Lib.hid hR
    have HP := Lib.hid (And.intro hP hI')
    by_cases hlt : k < pn
    · have hkp : k < ps.length := by rw [← H.out.2.2]; exact hlt
      obtain ⟨pb, po, u, rfl, hpB, hu, hcell⟩ := H.out.2.1.at_ hlt
      have hu2 : u = .int .i64 ps[k] := by
        rw [nums_at _ _ hkp] at hu
        injection hu with hu
        exact hu.symm
      subst hu2
      have hc : wr.cell? ⟨pb, po + k, none⟩ = some (.int .i64 ps[k]) := (World.cell?_of_block (w := w) (hR.st.g.block pb (Nat.lt_of_lt_of_le hpB hB0) (fun e => e (H.out.1 pb hpB)))).trans hcell
      have lpb := lt_of_cell hc
      obtain ⟨A, c, av, pps, M, l, sv, hW⟩ := hR.wd
      have CHO := Lib.hid (choices_any wr B T _ s' hW hI'.acs (fun k => Nat.le_trans (hI'.ways k) (by omega)) (fun i a ha => Nat.le_trans (hI'.box i a ha) (by omega)))
      have i1 : (k : Int) < (pn : Int) := by omega
      have i0 : (0 : Int) ≤ (k : Int) := by omega
      obtain ⟨x, hx2⟩ : ∃ x, x = ps[k] := ⟨_, rfl⟩
      rw [← hx2] at hc
      have HX := Lib.hid hx2
      clear hx2 hu hcell hW hN hR hP hI' hx
      go_wp2_with (fail)
      refine CHO.out.mono ?_
      rintro e w2 ⟨CA, cn, cc, rfl, hcn, hcc, hcm, hcr, hb2⟩
      have HR2 := Lib.hid (HR.out.below hb2)
      have hb2' := Lib.hid hb2
      by_cases hce : choicesF s' = []
      · rw [hce] at hcn
        simp at hcn
        subst hcn
        clear hcr hb2
        go_wp2_with (fail)
        go_ret2
        exact play_end HR2.out HN.out (HP.out.1.stop hkp hce)
      · have hc0 : 0 < cn := by
          rw [hcn]
          exact List.length_pos_iff.2 hce
        have cb := choices_len HP.out.2.acs
        have hc1 : ((cn : Int) == 0) = false := by simp; omega
        obtain ⟨j, hj⟩ : ∃ j : Nat, uns x % (cn : Int) = (j : Int) := ⟨(uns x % (cn : Int)).toNat, by
          have := Int.emod_nonneg (uns x) (b := (cn : Int)) (by omega)
          omega⟩
        have hjc : j < cn := by
          have := Int.emod_lt_of_pos (uns x) (b := (cn : Int)) (by omega)
          omega
        have hjl : j < (choicesF s').length := by rw [← hcn]; exact hjc
        obtain ⟨cb1, co, rfl, hcw, hcc3⟩ := cat_cell chC_len hcr hjc hcn
        have q0 := hcc3 0 (by omega)
        have q1 := hcc3 1 (by omega)
        have q2 := hcc3 2 (by omega)
        obtain ⟨x3, hx3⟩ : ∃ x3, x3 = (choicesF s')[j] := ⟨_, rfl⟩
        have HX3 := Lib.hid hx3
        rw [← hx3] at q0 q1 q2
        obtain ⟨xk, xa, xb⟩ := x3
        simp only [chC, List.getElem?_cons_succ, List.getElem?_cons_zero, Nat.add_zero] at q0 q1 q2
        have HC := Lib.hid (And.intro hcn hj)
        have lq := lt_of_cell q0
        clear hcr hb2 hcc3 hce hcn hx3
        have ux : 0 ≤ uns x := Int.emod_nonneg _ (by omega)
        have hc20 : cn ≤ 2000 := by rw [HC.out.1]; exact cb
        have e1 : IntKind.u64.wrap (cn : Int) = (cn : Int) := by show (cn : Int) % 18446744073709551616 = _; omega
        have e2 : (IntKind.u64.wrap x).tmod (cn : Int) = (j : Int) := by
          rw [← HC.out.2]
          exact Int.tmod_eq_emod_of_nonneg ux
        have e3 : IntKind.u64.wrap (j : Int) = (j : Int) := by show (j : Int) % 18446744073709551616 = _; omega
        have j1 : (j : Int) < (cn : Int) := by omega
        have j0 : (0 : Int) ≤ (j : Int) := by omega
        have hxat : (choicesF s')[(uns ps[k] % (choicesF s').length).toNat]? = some ⟨xk, xa, xb⟩ := by
          rw [← HX.out, ← HC.out.1, HC.out.2, HX3.out]
          exact List.getElem?_eq_getElem hjl
        have hmem : (⟨xk, xa, xb⟩ : Ch) ∈ choicesF s' := List.mem_of_getElem? hxat
        obtain ⟨w3, hw3⟩ : ∃ W, W = w2.alloc (.cells #[.int .i64 xk, .int .i64 xa, .int .i64 xb] 36) := ⟨_, rfl⟩
        obtain ⟨X, hX⟩ : ∃ X, X = w2.heap.size := ⟨_, rfl⟩
        have b23 : Below w2.heap.size w2 w3 := by rw [hw3]; exact (Below.refl _ _).alloc (Nat.le_refl _) _
        have fX : Blk w3 X 36 [.int .i64 xk, .int .i64 xa, .int .i64 xb] := by rw [hw3, hX]; exact Blk.new w2 _ _
        have HR3 := HR2.out.below b23
        have cX : recol (recol col' wr.heap.size .out) w2.heap.size .out X = .out := recol_new (by omega)
        have TK := take_any w3 B T _ s' HR3.wd HP.out.2 (by omega) ⟨xk, xa, xb⟩
        rw [if_pos hmem, if_pos hmem] at TK
        generalize recol (recol col' wr.heap.size .out) w2.heap.size .out = col3 at HR3 cX TK
        have HT := Lib.hid TK
        have H3 := Lib.hid (And.intro HR3 (And.intro fX cX))
        have HM := Lib.hid hxat
        have HW3 := Lib.hid hw3
        have HXe := Lib.hid hX
        clear ux hxat hmem hw3 hX b23 fX HR3 cX TK cb
        go_wp2_with (fail)
        rw [← HXe.out, ← HW3.out]
        refine HT.out.mono ?_
        rintro e w4 ⟨rfl, col4, h4, st4⟩
        have HR4 := H3.out.1.step h4 st4
        have fX4 : Blk w4 X 36 [.int .i64 xk, .int .i64 xa, .int .i64 xb] := (st4.g.block X H3.out.2.1.lt (fun h => h H3.out.2.2)).trans H3.out.2.1
        have x0 := fX4.cell 0
        have x1 := fX4.cell 1
        have x2 := fX4.cell 2
        simp only [List.getElem?_cons_succ, List.getElem?_cons_zero] at x0 x1 x2
        have lX4 := fX4.lt
        obtain ⟨w5, hw5⟩ : ∃ W, W = w4.alloc (.cells #[.int .i64 xk, .int .i64 xa, .int .i64 xb] 36) := ⟨_, rfl⟩
        have b45 : Below w4.heap.size w4 w5 := by rw [hw5]; exact (Below.refl _ _).alloc (Nat.le_refl _) _
        have sg5 : Seg w5 36 3 (.slice A3 N c3) out.length (cat chC out) := HR4.row.keep fun b hb => b45.block b (HR4.row.lt b hb)
        have rd5 : Reads w5 Any 3 (some ⟨w4.heap.size, 0, none⟩) 1 (chC ⟨xk, xa, xb⟩) := by rw [hw5]; exact Reads.new w4 (chC ⟨xk, xa, xb⟩) 3 1 _ Any trivial rfl
        obtain ⟨v6, w6, hap, sg6, hg6, hat6⟩ := sg5.app el_ch rd5 (by omega) (chC_one _) (by rw [← HN.out, HN.out, HP.out.1.len]; omega) (c := 1) 27
        have HR6 := HR4.push hB0 b45 ⟨xk, xa, xb⟩ sg6 hg6 hat6
        have HF := Lib.hid (And.intro HR6 (And.intro (HP.out.1.next hkp HM.out) (HP.out.2.step ⟨xk, xa, xb⟩)))
        rw [hw5] at hap
        clear h4 st4 HR4 fX4 b45 sg5 rd5 sg6 hg6 hat6 HR6 hw5 hc q0 q1 q2
        go_wp2_with (at_builtin; refine wpList_app_run rfl (.tmp 37) (.tmp 39) rfl rfl rfl hap ?_; clear hap)
        go_roundw
        case rel =>
          first
            | exact ⟨k + 1, by omega, by go_num, _, _, _, HF.out.1, HF.out.2.1, HF.out.2.2⟩
            | ((repeat apply Exists.intro); exact ⟨⟨k + 1, by omega, by go_num, _, _, _, HF.out.1, HF.out.2.1, HF.out.2.2⟩, rfl⟩)
        case measure => simp [intOf]; omega
    · obtain rfl : k = pn := by omega
      go_wp2_with (fail)
      go_ret2
      refine play_end HR.out HN.out ?_
      have h1 := HP.out.1
      rw [H.out.2.2] at h1
      exact h1.done
end Go.Proofs.YtlpkgheggbcidaaDoor

