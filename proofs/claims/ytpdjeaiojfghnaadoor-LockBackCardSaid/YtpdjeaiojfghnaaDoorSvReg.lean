/- Contract of the laws' registerOf. -/
import Derived.Test.YtpdjeaiojfghnaaDoorSvRoot
import Derived.Test.YtpdjeaiojfghnaaDoorHeldG
set_option linter.unusedVariables false
namespace Go.Sv
/-- the module of number k -/
def KAt (m : Md) (k : Nat) : Prop := m.name = [Go.Proofs.YtpdjeaiojfghnaaDoor.chr (k / 4)] ∧ m.ver = 1 + k % 4
structure MdGood (m : Md) : Prop where
  us : m.uses.length ≤ 2
  ae : ∀ u ∈ m.uses, UsAE u
/-- a register of the laws -/
structure RegOk (i : Nat) (ms : List Md) : Prop where
  ka : ∀ m ∈ ms, ∃ k, k < i ∧ KAt m k
  gd : ∀ m ∈ ms, MdGood m
  od : ms.Pairwise MdLt
  ln : ms.length ≤ i
theorem RegOk.nil : RegOk 0 [] := ⟨by simp, by simp, List.Pairwise.nil, by simp⟩
theorem RegOk.wide {i j : Nat} {ms : List Md} (h : RegOk i ms) (hij : i ≤ j) : RegOk j ms := ⟨fun m hm => by obtain ⟨k, h1, h2⟩ := h.ka m hm; exact ⟨k, by omega, h2⟩, h.gd, h.od, by have := h.ln; omega⟩
theorem kat_lt {a b : Md} {i j : Nat} (ha : KAt a i) (hb : KAt b j) (h : i < j) (hj : j < 20) : MdLt a b := by
  obtain ⟨a1, a2⟩ := ha
  obtain ⟨b1, b2⟩ := hb
  by_cases e : i / 4 = j / 4
  · refine .inr ⟨by rw [a1, b1, e], ?_⟩
    omega
  · refine .inl ?_
    rw [a1, b1, lt_one]
    have e1 : (Go.Proofs.YtpdjeaiojfghnaaDoor.chr (i / 4)).toNat = 97 + i / 4 := by have := Go.Proofs.YtpdjeaiojfghnaaDoor.chr_val (i / 4) (by omega); omega
    have e2 : (Go.Proofs.YtpdjeaiojfghnaaDoor.chr (j / 4)).toNat = 97 + j / 4 := by have := Go.Proofs.YtpdjeaiojfghnaaDoor.chr_val (j / 4) (by omega); omega
    show (Go.Proofs.YtpdjeaiojfghnaaDoor.chr (i / 4)).toNat < (Go.Proofs.YtpdjeaiojfghnaaDoor.chr (j / 4)).toNat
    omega
theorem RegOk.push {i : Nat} {ms : List Md} (h : RegOk i ms) (hi : i < 20) {m : Md} (hk : KAt m i) (hg : MdGood m) : RegOk (i + 1) (ms ++ [m]) := by
  refine ⟨fun x hx => ?_, fun x hx => ?_, ?_, by rw [List.length_append, List.length_singleton]; have := h.ln; omega⟩
  · rcases List.mem_append.1 hx with hx | hx
    · obtain ⟨k, h1, h2⟩ := h.ka x hx
      exact ⟨k, by omega, h2⟩
    · rw [List.mem_singleton] at hx
      subst hx
      exact ⟨i, by omega, hk⟩
  · rcases List.mem_append.1 hx with hx | hx
    · exact h.gd x hx
    · rw [List.mem_singleton] at hx
      subst hx
      exact hg
  · rw [List.pairwise_append]
    refine ⟨h.od, by simp, fun x hx y hy => ?_⟩
    rw [List.mem_singleton] at hy
    subst hy
    obtain ⟨k, h1, h2⟩ := h.ka x hx
    exact kat_lt h2 hk h1 hi
theorem RegOk.ms {ms : List Md} (h : RegOk 20 ms) : MsOk ms := by
  refine ⟨fun m hm => ?_, fun m hm => ?_, fun m hm => ⟨by have := (h.gd m hm).us; omega, fun u hu => ((h.gd m hm).ae u hu).ok⟩, h.od, by have := h.ln; omega⟩
  · obtain ⟨k, h1, h2, _⟩ := h.ka m hm
    rw [h2]
    exact (Go.Proofs.YtpdjeaiojfghnaaDoor.chr_ae (k / 4) (by omega)).letter
  · obtain ⟨k, h1, _, h2⟩ := h.ka m hm
    omega
end Go.Sv
namespace Go.Proofs.YtpdjeaiojfghnaaDoor
open Go.RowKit Go.Mem Go.Sv
abbrev RegRow (w : World) (base : Nat) (v : Value) (ms : List Md) : Prop := OwnList 52 3 MdCells w base v ms
theorem reg_keep {wr W : World} {base : Nat} {v : Value} {ms : List Md} (h : RegRow wr base v ms) (hb : Below wr.heap.size wr W) : RegRow W base v ms := OwnList.keep MdCells.stable h fun b _ hl => hb.block b hl
/-- what the walk needs ahead of append(out, m), and what it gives -/
theorem reg_push {w0 wr W : World} {i : Nat} {A : Option Addr} {c : Nat} {ms : List Md} (h : RegRow wr w0.heap.size (.slice A ms.length c) ms) (hk : RegOk i ms) (hb0 : Below w0.heap.size w0 wr) (hb : Below wr.heap.size wr W) (hi : i < 20) {m : Md} (hm : KAt m i) (hg : MdGood m) {Au : Option Addr} {nu cu : Nat} (hnu : nu = m.uses.length) (h1 : nu ≤ cu) (h2 : cu ≤ maxLen)
    (hr : Reads W (fun b => wr.heap.size ≤ b) 3 Au nu (uss m.uses)) : ∃ vss : List (List Value), W.ownsRow w0.heap.size 52 3 (.slice A ms.length c) ms.length vss.flatten ∧ ∀ w9 A9 c9, w9.ownsRow w0.heap.size 52 3 (.slice A9 (ms.length + 1) c9) (ms.length + 1) (vss.flatten ++ [str m.name, .int .i64 (m.ver : Nat), .slice Au nu cu]) → ∀ o, (W.alloc o).grownBy w9 (Value.slice A ms.length c).ownBlock →
      ((Value.slice A9 (ms.length + 1) c9).ownBlock = (Value.slice A ms.length c).ownBlock ∨ (Value.slice A9 (ms.length + 1) c9).ownBlock = some (W.alloc o).heap.size) → RegRow w9 w0.heap.size (.slice A9 (ms ++ [m]).length c9) (ms ++ [m]) ∧ RegOk (i + 1) (ms ++ [m]) ∧ Below w0.heap.size w0 w9 := by
  obtain ⟨vss, e1, e2⟩ := reg_keep h hb
  refine ⟨vss, e1, fun w9 A9 c9 hown9 o hg9 hat9 => ⟨?_, hk.push hi hm hg, ?_⟩⟩
  · rw [List.length_append, List.length_singleton]
    refine OwnList.push MdCells.stable e2 ⟨Au, nu, cu, rfl, hnu, h1, h2, hr.imp (by omega) fun b hb' _ => ⟨by have := hb0.size; omega, fun e => ?_⟩⟩ hg9 hat9 hown9
    have := (h.lt b e).2
    omega
  · have hb1 : Below w0.heap.size w0 W := hb0.trans (hb.mono hb0.size)
    exact (hb1.alloc hb1.size o).grown hg9 (by have := hb1.size; simp; omega) (fun k hk' => (h.lt k hk').1)
theorem mds_one {W : World} {D : Nat → Prop} {m : Md} {Au : Option Addr} {nu cu : Nat} : ∀ u ∈ [str m.name, .int .i64 (m.ver : Nat), .slice Au nu cu], u.oneCell' = true := by
  intro u hu
  simp at hu
  rcases hu with rfl | rfl | rfl <;> rfl
/-- behind m.Uses = append(m.Uses, u) -/
theorem reg_round {W6 wr w2 : World} {B : Nat} {nm : Nm} {ver : Value} {Au A9 : Option Addr} {cu c9 : Nat} {us : List Us} {u : Us} {o p : Obj}
    (h1 : Blk wr B 52 [str nm, ver, .slice Au us.length cu]) (h2 : wr.ownsRow W6.heap.size 56 3 (.slice Au us.length cu) us.length (uss us)) (h3 : GrownIn (fun b => b = B) W6 wr) (h4 : ∀ u ∈ us, UsAE u)
    (hg : ((wr.alloc o).alloc p).grownBy w2 (Value.slice Au us.length cu).ownBlock) (hown : w2.ownsRow W6.heap.size 56 3 (.slice A9 (us.length + 1) c9) (us.length + 1) (uss us ++ usc u)) (hu : UsAE u) (hB : B < W6.heap.size) :
    Blk (w2.setCell ⟨B, 2, none⟩ (.slice A9 (us.length + 1) c9)) B 52 [str nm, ver, .slice A9 (us ++ [u]).length c9] ∧ (w2.setCell ⟨B, 2, none⟩ (.slice A9 (us.length + 1) c9)).ownsRow W6.heap.size 56 3 (.slice A9 (us ++ [u]).length c9) (us ++ [u]).length (uss (us ++ [u])) ∧ GrownIn (fun b => b = B) W6 (w2.setCell ⟨B, 2, none⟩ (.slice A9 (us.length + 1) c9)) ∧ ∀ x ∈ us ++ [u], UsAE x := by
  have hl : (us ++ [u]).length = us.length + 1 := by simp
  rw [hl]
  refine ⟨(((h1.alloc o).alloc p).grown hg (fun e => by have := (h2.lt _ e.symm).1; omega)).put 2 _, ?_, ?_, fun x hx => ?_⟩
  · rw [uss_append]
    refine hown.kept (row := some B) (grownBy_setCell (World.grownBy.refl w2 _) (.inl rfl) _) ?_
    rcases hown.2 with ⟨e, _⟩ | ⟨g, cap, cur, e, hb, _⟩
    · exact .inl (by rw [e]; rfl)
    · refine .inr fun h => ?_
      have := (hown.lt B h).1
      omega
  · have k1 : GrownIn (fun b => W6.heap.size ≤ b) wr w2 := ((GrownIn.refl _ wr).alloc o |>.alloc p).trans (GrownIn.of_grown (own := fun b => W6.heap.size ≤ b) hg (fun b hb => (h2.lt b hb).1)) (fun _ h => .inl h)
    exact (h3.trans k1 (fun b hb => .inr hb)).set (p := ⟨B, 2, none⟩) rfl _
  · rcases List.mem_append.1 hx with hx | hx
    · exact h4 x hx
    · rw [List.mem_singleton] at hx
      subst hx
      exact hu
def RegPost (w : World) : Ending → World → Prop := fun e w' => ∃ A c ms, e = .returned (.slice A ms.length c) ∧ RegRow w' w.heap.size (.slice A ms.length c) ms ∧ RegOk 20 ms ∧ Below w.heap.size w w'
set_option maxRecDepth 100000 in
set_option maxHeartbeats 4000000 in
theorem registerOf_any (A : Option Addr) (n c : Nat) (l : List Int) (w : World) (hr : Reads w Any 1 A n (nums l)) (hn : n = l.length) (hnm : n ≤ maxLen) (hl : ∀ x ∈ l, I64 x) :
    Calls Tryd.prog 5 #[.slice A n c] w (RegPost w) := by
  have Hn := Lib.hid hn
  have Hl := Lib.hid hl
  have HR := Lib.hid hr
  have hn63 : n ≤ 9223372036854775807 := by unfold maxLen at hnm; omega
  clear hr hn hl hnm
  go_enter Tryd.func5, Tryd.ntmps5
  go_wp2_with (fail)
  go_loopw [3, 4, 5, 6, 7, 8, 9] (fun v3 _ _ _ _ _ v wr => ∃ (i : Nat) (A3 : Option Addr) (c3 : Nat) (ms : List Md), i ≤ 20 ∧ v = .int .i64 i ∧ v3 = .slice A3 ms.length c3 ∧ ms.length ≤ 20 ∧ Hid (RegRow wr w.heap.size (.slice A3 ms.length c3) ms ∧ RegOk i ms ∧ Below w.heap.size w wr)) (fun _ _ _ _ _ _ v _ => 20 - (intOf v).toNat)
  case atStart => exact ⟨0, none, 0, [], by omega, rfl, rfl, by simp, OwnList.nil _ _ _ _, RegOk.nil, Below.refl _ _⟩
  case round =>
    obtain ⟨i, A3, c3, ms, hi, rfl, rfl, hms, HI⟩ := hrel
    rename World => wo
    by_cases h20 : i < 20
    · obtain ⟨q, hq⟩ : ∃ q, q = i / 4 := ⟨_, rfl⟩
      obtain ⟨r, hr⟩ : ∃ r, r = i % 4 := ⟨_, rfl⟩
      have q1 : (i : Int).tdiv 4 = (q : Int) := by rw [Int.tdiv_eq_ediv_of_nonneg (by omega)]; omega
      have q2 : (i : Int).tmod 4 = (r : Int) := by rw [Int.tmod_eq_emod_of_nonneg (by omega)]; omega
      have hq5 : q < 5 := by omega
      have hr4 : r < 4 := by omega
      have w1 : IntKind.i64.wrap (97 + (q : Int)) = 97 + (q : Int) := IntWalk.i64_in _ (by omega)
      have w2 : IntKind.i64.wrap (1 + (r : Int)) = 1 + (r : Int) := IntWalk.i64_in _ (by omega)
      have w3 : IntKind.i64.wrap (q : Int) = (q : Int) := IntWalk.i64_in _ (by omega)
      have w5 : IntKind.u8.wrap (97 + (q : Int)) = 97 + (q : Int) := IntWalk.u8_in _ (by omega)
      have q3 : (i : Int) / 4 = (q : Int) := by omega
      have q4 : (i : Int) % 4 = (r : Int) := by omega
      have cv : (convert 53 9 (.slice (some ⟨wo.heap.size, 0, none⟩) 1 1)).run Tryd.prog (wo.alloc (.cells #[.int .u8 (97 + (q : Int))] 5)) = .ok (str [chr q]) (wo.alloc (.cells #[.int .u8 (97 + (q : Int))] 5)) := by
        have := chr_cv wo q 5
        rw [chr_val q (by omega)] at this
        exact this
      obtain ⟨B, hB⟩ : ∃ B, B = wo.heap.size + 1 := ⟨_, rfl⟩
      obtain ⟨W6, hW6⟩ : ∃ W, W = (wo.alloc (.cells #[.int .u8 (97 + (q : Int))] 5)).alloc (.cells #[.string ⟨[chr q].toArray⟩, .int .i64 (1 + (r : Int)), .slice none 0 0] 52) := ⟨_, rfl⟩
      have hb6 : Below wo.heap.size wo W6 := by rw [hW6]; exact ((Below.refl _ _).alloc (Nat.le_refl _) _).alloc (by simp) _
      have hbk6 : Blk W6 B 52 [str [chr q], .int .i64 (1 + (r : Int)), .slice none 0 0] := by
        rw [hW6, hB]
        have := Blk.new (wo.alloc (.cells #[.int .u8 (97 + (q : Int))] 5)) 52 [str [chr q], .int .i64 (1 + (r : Int)), .slice none 0 0]
        simpa using this
      have hk0 : KAt ⟨[chr q], 1 + r, []⟩ i := ⟨by rw [hq], by rw [hr]⟩
      have H6 := Lib.hid (And.intro hb6 (And.intro hbk6 hk0))
      have HQ := Lib.hid (And.intro hq hr)
      have l6 : B < W6.heap.size := hbk6.lt
      have l6' : wo.heap.size < B := by omega
      clear hb6 hbk6 hk0 hq hr
      by_cases hlt : i < n
      · have hil : i < l.length := by have := Hn.out; omega
        obtain ⟨b1, o1, u, rfl, _, hu, p0⟩ := (HR.out.keep (Same.any HI.out.2.2)).at_ hlt
        rw [nums_at l i hil] at hu
        injection hu with hu
        subst hu
        have hx := Hl.out _ (List.getElem_mem hil)
        generalize l[i] = x at p0 hx
        have i0 : (0 : Int) ≤ (i : Int) := by omega
        have i1 : (i : Int) < (n : Int) := by omega
        have x3 := I64.tdiv hx 3 (by omega)
        have x27 := I64.tdiv hx 27 (by omega)
        have x9 := I64.tdiv hx 9 (by omega)
        have x81 := I64.tdiv hx 81 (by omega)
        have R0 := Lib.hid (fun W => rest_q (x.tdiv 3) 3 W ((rsN (x.tdiv 3) 3 : Nat) : Int) x3.1 (by omega) (by omega) (rsN_eq _ _ (by omega)))
        have R1 := Lib.hid (fun W => rest_q (x.tdiv 27) 3 W ((rsN (x.tdiv 27) 3 : Nat) : Int) x27.1 (by omega) (by omega) (rsN_eq _ _ (by omega)))
        have R3 := Lib.hid (fun W => rest_q (x.tdiv 81) 3 W ((rsN (x.tdiv 81) 3 : Nat) : Int) x81.1 (by omega) (by omega) (rsN_eq _ _ (by omega)))
        have b0 := rsN_lt (x.tdiv 3) 3 (by omega)
        have b1' := rsN_lt (x.tdiv 27) 3 (by omega)
        have b3 := rsN_lt (x.tdiv 81) 3 (by omega)
        generalize rsN (x.tdiv 3) 3 = t0 at R0 b0
        generalize rsN (x.tdiv 27) 3 = t1 at R1 b1'
        generalize rsN (x.tdiv 81) 3 = t3 at R3 b3
        have k3 : IntKind.i64.wrap (x.tdiv 3) = x.tdiv 3 := IntWalk.i64_in _ (by have := x3.2; omega)
        have k27 : IntKind.i64.wrap (x.tdiv 27) = x.tdiv 27 := IntWalk.i64_in _ (by have := x27.2; omega)
        have k9 : IntKind.i64.wrap (x.tdiv 9) = x.tdiv 9 := IntWalk.i64_in _ (by have := x9.2; omega)
        have k81 : IntKind.i64.wrap (x.tdiv 81) = x.tdiv 81 := IntWalk.i64_in _ (by have := x81.2; omega)
        by_cases hz : (x.tmod 3 == 0) = true ∧ 0 < r
        · have g0 := hz.1
          have hr0 := hz.2
          have g1 : decide ((r : Int) > 0) = true := decide_eq_true (by omega)
          clear hW6 hB hz
          go_wp2_with (fail)
          exact ⟨⟨i + 1, A3, c3, ms, by omega, by go_num, rfl, hms, ⟨HI.out.1, HI.out.2.1.wide (by omega), HI.out.2.2⟩⟩, by simp [intOf]; omega⟩
        · have hz2 : (x.tmod 3 == 0) = false ∨ ((x.tmod 3 == 0) = true ∧ decide (0 < r) = false) := by
            rcases Bool.eq_false_or_eq_true (x.tmod 3 == 0) with h | h
            · exact .inr ⟨h, decide_eq_false fun h2 => hz ⟨h, h2⟩⟩
            · exact .inl h
          clear hz
          rcases hz2 with g0 | ⟨g0, g2⟩
          all_goals
            try have g1 : decide ((r : Int) > 0) = false := (decide_eq_false (by have := of_decide_eq_false g2; omega))
            go_upto_region 10 with (fail)
            rw [← hW6, ← hB]
            clear hW6 hB cv
            go_wp2_with (go_at_call 16; (with_reducible refine (R0.out _).mono ?_); rintro e w' ⟨rfl, rfl⟩)
            go_loopw [7, 8, 41] (fun _ _ v wr => ∃ (us : List Us) (Au : Option Addr) (cu : Nat), us.length ≤ t0 ∧ v = .int .i64 us.length ∧ Hid (Blk wr B 52 [str [chr q], .int .i64 (1 + (r : Int)), .slice Au us.length cu] ∧ wr.ownsRow W6.heap.size 56 3 (.slice Au us.length cu) us.length (uss us) ∧ GrownIn (fun b => b = B) W6 wr ∧ ∀ u ∈ us, UsAE u)) (fun _ _ v _ => t0 - (intOf v).toNat)
            case atStart => exact ⟨[], none, 0, Nat.zero_le _, rfl, H6.out.2.1, World.ownsRow_nil _ _ _ _, GrownIn.refl _ _, by simp⟩
            case round =>
              obtain ⟨us, Au, cu, hk, rfl, HI2⟩ := hrel
              have y0 := HI2.out.1.cell 0
              have y1 := HI2.out.1.cell 1
              have y2 := HI2.out.1.cell 2
              simp only [List.getElem?_cons_zero, List.getElem?_cons_succ] at y0 y1 y2
              have lB := HI2.out.1.lt
              have hws2 := HI2.out.2.2.1.size
              by_cases hkt : us.length < t0
              · have R2 := Lib.hid (fun W => rest_q (x.tdiv 9 + (us.length : Int)) 5 W ((rsN (x.tdiv 9 + (us.length : Int)) 5 : Nat) : Int) (by have := x9.2; unfold I64; omega) (by omega) (by omega) (rsN_eq _ _ (by omega)))
                have b2 := rsN_lt (x.tdiv 9 + (us.length : Int)) 5 (by omega)
                generalize rsN (x.tdiv 9 + (us.length : Int)) 5 = t2 at R2 b2
                have e0 : IntKind.i64.wrap (1 + (t1 : Int)) = 1 + (t1 : Int) := IntWalk.i64_in _ (by omega)
                have e1 : IntKind.i64.wrap (1 + (t1 : Int) + (t3 : Int)) = 1 + (t1 : Int) + (t3 : Int) := IntWalk.i64_in _ (by omega)
                have e2 : IntKind.i64.wrap (97 + (t2 : Int)) = 97 + (t2 : Int) := IntWalk.i64_in _ (by omega)
                have e3 : IntKind.i64.wrap (x.tdiv 9 + (us.length : Int)) = x.tdiv 9 + (us.length : Int) := IntWalk.i64_in _ (by have := x9.2; omega)
                have e5 : IntKind.u8.wrap (97 + (t2 : Int)) = ((chr t2).toNat : Nat) := by rw [chr_val t2 (by omega)]; exact (IntWalk.u8_in _ (by omega)).trans (by omega)
                have cv2 : (convert 53 9 (.slice (some ⟨wr.heap.size, 0, none⟩) 1 1)).run Tryd.prog (World.drew (wr.alloc (.cells #[.int .u8 ((chr t2).toNat : Nat)] 5))) = .ok (str [chr t2]) (World.drew (wr.alloc (.cells #[.int .u8 ((chr t2).toNat : Nat)] 5))) := chr_cv wr.drew t2 _
                have Rd2 := Lib.hid (show Reads ((wr.alloc (.cells #[.int .u8 ((chr t2).toNat : Nat)] 5)).alloc (.cells (usc ⟨[chr t2], 1 + t1, 1 + t1 + t3⟩).toArray 56)) Any 3 (some ⟨wr.heap.size + 1, 0, none⟩) 1 (usc ⟨[chr t2], 1 + t1, 1 + t1 + t3⟩) by
                  have := Reads.new (D := Any) (wr.alloc (.cells #[.int .u8 ((chr t2).toNat : Nat)] 5)) (usc ⟨[chr t2], 1 + t1, 1 + t1 + t3⟩) 3 1 56 trivial rfl
                  simpa using this)
                go_wp2_with (go_at_call 16; (with_reducible refine (R1.out _).mono ?_); rintro e w' ⟨rfl, rfl⟩)
                -- REGION 14
                refine wp_region_g (S := (fun w' => w'.cell? ⟨B, 2, none⟩ = some (.slice Au us.length cu))) (m := 21) (by kernel_rfl) ?_
                have hS : (World.drew wr).cell? ⟨B, 2, none⟩ = some (.slice Au us.length cu) := y2
                repeat (first | (refine wpAnyG_take (i := 0) (v := .pointer (some ⟨B, 2, none⟩)) rfl ?_ ?_ ?_ (fun _ _ _ h => h) (Or.inl ⟨by rfl, ?_⟩) hS ?_; (· decide +kernel); (· decide +kernel); (· decide +kernel); (· (intro w' hS'; go_simp))) | (refine wpAnyG_take (i := 1) (v := .slice Au us.length cu) rfl ?_ ?_ ?_ (fun _ _ _ h => h) (Or.inl ⟨by rfl, ?_⟩) hS ?_; (· decide +kernel); (· decide +kernel); (· decide +kernel); (· (intro w' hS'; go_simp))) | (refine wpAnyG_take (i := 2) (v := .int .i64 x) rfl ?_ ?_ ?_ (fun _ _ _ h => h) (Or.inl ⟨by rfl, ?_⟩) hS ?_; (· decide +kernel); (· decide +kernel); (· decide +kernel); (· (intro w' hS'; go_simp))) | (refine wpAnyG_take (i := 3) (v := .int .i64 (x.tdiv 9)) rfl ?_ ?_ ?_ (fun _ _ _ h => h) (Or.inl ⟨by rfl, ?_⟩) hS ?_; (· decide +kernel); (· decide +kernel); (· decide +kernel); (· (intro w' hS'; go_simp))) | (refine wpAnyG_take (i := 4) (v := .int .i64 us.length) rfl ?_ ?_ ?_ (fun _ _ _ h => h) (Or.inl ⟨by rfl, ?_⟩) hS ?_; (· decide +kernel); (· decide +kernel); (· decide +kernel); (· (intro w' hS'; go_simp))) | (refine wpAnyG_take (i := 5) (v := .int .i64 (x.tdiv 9 + us.length)) rfl ?_ ?_ ?_ (fun _ _ _ h => h) (Or.inl ⟨by rfl, ?_⟩) hS ?_; (· decide +kernel); (· decide +kernel); (· decide +kernel); (· (intro w' hS'; go_simp))) | (refine wpAnyG_take (i := 11) (v := .int .i64 (1 + t1)) rfl ?_ ?_ ?_ (fun _ _ _ h => h) (Or.inl ⟨by rfl, ?_⟩) hS ?_; (· decide +kernel); (· decide +kernel); (· decide +kernel); (· (intro w' hS'; go_simp))) | (refine wpAnyG_take (i := 12) (v := .int .i64 (1 + t1)) rfl ?_ ?_ ?_ (fun _ _ _ h => h) (Or.inl ⟨by rfl, ?_⟩) hS ?_; (· decide +kernel); (· decide +kernel); (· decide +kernel); (· (intro w' hS'; go_simp))) | (refine wpAnyG_take (i := 13) (v := .int .i64 x) rfl ?_ ?_ ?_ (fun _ _ _ h => h) (Or.inl ⟨by rfl, ?_⟩) hS ?_; (· decide +kernel); (· decide +kernel); (· decide +kernel); (· (intro w' hS'; go_simp))) | (refine wpAnyG_take (i := 14) (v := .int .i64 (x.tdiv 81)) rfl ?_ ?_ ?_ (fun _ _ _ h => h) (Or.inl ⟨by rfl, ?_⟩) hS ?_; (· decide +kernel); (· decide +kernel); (· decide +kernel); (· (intro w' hS'; go_simp))))
                refine wpAnyG_ready (rs := [6]) (by decide +kernel) (by simp) ?_
                refine AllReadyG.cons rfl (fun K hK => ?_) AllReadyG.nil
                go_simp
                refine (R2.out _).mono ?_
                rintro e w' ⟨rfl, rfl⟩
                try dsimp only
                refine hK _ _ (fun _ => hS) ?_
                clear hK K
                repeat (first | (refine wpAnyG_take (i := 7) (v := .int .i64 (97 + t2)) rfl ?_ ?_ ?_ (fun _ _ _ h => h) (Or.inl ⟨by rfl, ?_⟩) hS ?_; (· decide +kernel); (· decide +kernel); (· decide +kernel); (· (intro w' hS'; go_simp))) | (refine wpAnyG_take (i := 8) (v := .int .u8 ((chr t2).toNat : Nat)) rfl ?_ ?_ ?_ (fun _ _ _ h => h) (Or.inl ⟨by rfl, ?_⟩) hS ?_; (· decide +kernel); (· decide +kernel); (· decide +kernel); (· (intro w' hS'; go_simp))))
                refine wpAnyG_ready (rs := [9, 15]) (by decide +kernel) (by simp) ?_
                refine AllReadyG.cons rfl (fun K hK => ?_) (AllReadyG.cons rfl (fun K hK => ?_) AllReadyG.nil)
                · go_simp
                  have hS : (World.drew (wr.alloc (.cells #[.int .u8 ((chr t2).toNat : Nat)] 5))).cell? ⟨B, 2, none⟩ = some (.slice Au us.length cu) := (HI2.out.1.alloc (.cells #[.int .u8 ((chr t2).toNat : Nat)] 5)).cell 2
                  refine hK _ _ (fun _ => hS) ?_
                  clear hK K
                  refine wpAnyG_ready (rs := [10, 15]) (by decide +kernel) (by simp) ?_
                  refine AllReadyG.cons rfl (fun K hK => ?_) (AllReadyG.cons rfl (fun K hK => ?_) AllReadyG.nil)
                  · go_simp
                    refine hK _ _ (fun _ => hS) ?_
                    clear hK K
                    refine wpAnyG_ready (rs := [15]) (by decide +kernel) (by simp) ?_
                    refine AllReadyG.cons rfl (fun K hK => ?_) AllReadyG.nil
                    go_simp
                    refine (R3.out _).mono ?_
                    rintro e w' ⟨rfl, rfl⟩
                    try dsimp only
                    refine hK _ _ (fun _ => hS) ?_
                    clear hK K
                    repeat (first | (refine wpAnyG_take (i := 16) (v := .int .i64 (1 + t1 + t3)) rfl ?_ ?_ ?_ (fun _ _ _ h => h) (Or.inl ⟨by rfl, ?_⟩) hS ?_; (· decide +kernel); (· decide +kernel); (· decide +kernel); (· (intro w' hS'; go_simp))))
                    repeat (first | (refine wpAnyG_take (i := 17) (v := .agg #[str [chr t2], .int .i64 (1 + t1), .int .i64 (1 + t1 + t3)]) rfl ?_ ?_ ?_ (fun _ _ _ h => h) (Or.inl ⟨by rfl, ?_⟩) hS ?_; (· decide +kernel); (· decide +kernel); (· decide +kernel); (· (intro w' hS'; go_simp))))
                    refine wpAnyG_ready (rs := [18]) (by decide +kernel) (by simp) ?_
                    refine AllReadyG.cons rfl (fun K hK => ?_) AllReadyG.nil
                    go_simp
                    have hS : (World.drew ((wr.alloc (.cells #[.int .u8 ((chr t2).toNat : Nat)] 5)).alloc (.cells (usc ⟨[chr t2], 1 + t1, 1 + t1 + t3⟩).toArray 56))).cell? ⟨B, 2, none⟩ = some (.slice Au us.length cu) := ((HI2.out.1.alloc (.cells #[.int .u8 ((chr t2).toNat : Nat)] 5)).alloc (.cells (usc ⟨[chr t2], 1 + t1, 1 + t1 + t3⟩).toArray 56)).cell 2
                    refine hK _ _ (fun _ => hS) ?_
                    clear hK K
                    refine wpAnyG_ready (rs := [19]) (by decide +kernel) (by simp) ?_
                    refine AllReadyG.cons rfl (fun K hK => ?_) AllReadyG.nil
                    refine step_app_us _ rfl (.tmp 49) (.tmp 66) (by rfl) (base := W6.heap.size) (v := .slice Au us.length cu) (n := us.length) (xs := uss us) (by exact (HI2.out.2.1.alloc (.cells #[.int .u8 ((chr t2).toNat : Nat)] 5)).alloc (.cells (usc ⟨[chr t2], 1 + t1, 1 + t1 + t3⟩).toArray 56)) rfl (D := Any) (A := some ⟨wr.heap.size + 1, 0, none⟩) (m := 1) (news := usc ⟨[chr t2], 1 + t1, 1 + t1 + t3⟩) (c := 1) (by exact Rd2.out) (by first | rfl | simp) (by simp [usc, Value.oneCell']) (by omega) (by first | omega | (simp; omega)) ?_
                    intro v2 w2 hown2 hg2 hat2
                    obtain ⟨A9, c9, rfl, _⟩ := own_form hown2
                    have hg3 : ((wr.alloc (.cells #[.int .u8 ((chr t2).toNat : Nat)] 5)).alloc (.cells (usc ⟨[chr t2], 1 + t1, 1 + t1 + t3⟩).toArray 56)).grownBy w2 (Value.slice Au us.length cu).ownBlock := ⟨hg2.os, hg2.tape, hg2.output, hg2.size, hg2.block⟩
                    have hkp := ((HI2.out.1.alloc (.cells #[.int .u8 ((chr t2).toNat : Nat)] 5)).alloc (.cells (usc ⟨[chr t2], 1 + t1, 1 + t1 + t3⟩).toArray 56)).grown hg3 (fun e => by have := (HI2.out.2.1.lt _ e.symm).1; omega)
                    have hS : w2.cell? ⟨B, 2, none⟩ = some (.slice Au us.length cu) := hkp.cell 2
                    have z2 := hkp.frozen 2
                    have lz := hkp.lt
                    refine hK _ _ (fun _ => hS) ?_
                    clear hK K
                    repeat (first | (refine wpAnyG_take (i := 20) (v := .pointer (some ⟨B, 2, none⟩)) rfl ?_ ?_ ?_ (fun _ _ _ h => h) (Or.inl ⟨by rfl, ?_⟩) hS ?_; (· decide +kernel); (· decide +kernel); (· decide +kernel); (· (intro w' hS'; go_simp))))
                    refine wpAnyG_ready (rs := [21]) (by decide +kernel) (by simp) ?_
                    refine AllReadyG.cons rfl (fun K hK => ?_) AllReadyG.nil
                    go_simp
                    refine hK _ _ (fun h => absurd h (by decide)) ?_
                    clear hK K
                    refine wpAnyG_done (by decide +kernel) ?_ _
                    have fin := Lib.hid (reg_round HI2.out.1 HI2.out.2.1 HI2.out.2.2.1 HI2.out.2.2.2 hg3 (u := ⟨[chr t2], 1 + t1, 1 + t1 + t3⟩) (by exact hown2) ⟨chr_ae t2 (by omega), by simp only; omega, by simp only; omega, by simp only; omega⟩ l6)
                    clear hg2 hg3 hown2 hat2 hkp hS z2 lz
                    go_wp2_with (fail)
                    exact ⟨⟨us ++ [⟨[chr t2], 1 + t1, 1 + t1 + t3⟩], A9, c9, by rw [List.length_append, List.length_singleton]; omega, by rw [List.length_append, List.length_singleton]; go_num, fin⟩, by simp [intOf]; omega⟩
                  · go_simp
                    refine (R3.out _).mono ?_
                    rintro e w' ⟨rfl, rfl⟩
                    try dsimp only
                    refine hK _ _ (fun _ => hS) ?_
                    clear hK K
                    repeat (first | (refine wpAnyG_take (i := 16) (v := .int .i64 (1 + t1 + t3)) rfl ?_ ?_ ?_ (fun _ _ _ h => h) (Or.inl ⟨by rfl, ?_⟩) hS ?_; (· decide +kernel); (· decide +kernel); (· decide +kernel); (· (intro w' hS'; go_simp))))
                    refine wpAnyG_ready (rs := [10]) (by decide +kernel) (by simp) ?_
                    refine AllReadyG.cons rfl (fun K hK => ?_) AllReadyG.nil
                    go_simp
                    refine hK _ _ (fun _ => hS) ?_
                    clear hK K
                    repeat (first | (refine wpAnyG_take (i := 17) (v := .agg #[str [chr t2], .int .i64 (1 + t1), .int .i64 (1 + t1 + t3)]) rfl ?_ ?_ ?_ (fun _ _ _ h => h) (Or.inl ⟨by rfl, ?_⟩) hS ?_; (· decide +kernel); (· decide +kernel); (· decide +kernel); (· (intro w' hS'; go_simp))))
                    refine wpAnyG_ready (rs := [18]) (by decide +kernel) (by simp) ?_
                    refine AllReadyG.cons rfl (fun K hK => ?_) AllReadyG.nil
                    go_simp
                    have hS : (World.drew ((wr.alloc (.cells #[.int .u8 ((chr t2).toNat : Nat)] 5)).alloc (.cells (usc ⟨[chr t2], 1 + t1, 1 + t1 + t3⟩).toArray 56))).cell? ⟨B, 2, none⟩ = some (.slice Au us.length cu) := ((HI2.out.1.alloc (.cells #[.int .u8 ((chr t2).toNat : Nat)] 5)).alloc (.cells (usc ⟨[chr t2], 1 + t1, 1 + t1 + t3⟩).toArray 56)).cell 2
                    refine hK _ _ (fun _ => hS) ?_
                    clear hK K
                    refine wpAnyG_ready (rs := [19]) (by decide +kernel) (by simp) ?_
                    refine AllReadyG.cons rfl (fun K hK => ?_) AllReadyG.nil
                    refine step_app_us _ rfl (.tmp 49) (.tmp 66) (by rfl) (base := W6.heap.size) (v := .slice Au us.length cu) (n := us.length) (xs := uss us) (by exact (HI2.out.2.1.alloc (.cells #[.int .u8 ((chr t2).toNat : Nat)] 5)).alloc (.cells (usc ⟨[chr t2], 1 + t1, 1 + t1 + t3⟩).toArray 56)) rfl (D := Any) (A := some ⟨wr.heap.size + 1, 0, none⟩) (m := 1) (news := usc ⟨[chr t2], 1 + t1, 1 + t1 + t3⟩) (c := 1) (by exact Rd2.out) (by first | rfl | simp) (by simp [usc, Value.oneCell']) (by omega) (by first | omega | (simp; omega)) ?_
                    intro v2 w2 hown2 hg2 hat2
                    obtain ⟨A9, c9, rfl, _⟩ := own_form hown2
                    have hg3 : ((wr.alloc (.cells #[.int .u8 ((chr t2).toNat : Nat)] 5)).alloc (.cells (usc ⟨[chr t2], 1 + t1, 1 + t1 + t3⟩).toArray 56)).grownBy w2 (Value.slice Au us.length cu).ownBlock := ⟨hg2.os, hg2.tape, hg2.output, hg2.size, hg2.block⟩
                    have hkp := ((HI2.out.1.alloc (.cells #[.int .u8 ((chr t2).toNat : Nat)] 5)).alloc (.cells (usc ⟨[chr t2], 1 + t1, 1 + t1 + t3⟩).toArray 56)).grown hg3 (fun e => by have := (HI2.out.2.1.lt _ e.symm).1; omega)
                    have hS : w2.cell? ⟨B, 2, none⟩ = some (.slice Au us.length cu) := hkp.cell 2
                    have z2 := hkp.frozen 2
                    have lz := hkp.lt
                    refine hK _ _ (fun _ => hS) ?_
                    clear hK K
                    repeat (first | (refine wpAnyG_take (i := 20) (v := .pointer (some ⟨B, 2, none⟩)) rfl ?_ ?_ ?_ (fun _ _ _ h => h) (Or.inl ⟨by rfl, ?_⟩) hS ?_; (· decide +kernel); (· decide +kernel); (· decide +kernel); (· (intro w' hS'; go_simp))))
                    refine wpAnyG_ready (rs := [21]) (by decide +kernel) (by simp) ?_
                    refine AllReadyG.cons rfl (fun K hK => ?_) AllReadyG.nil
                    go_simp
                    refine hK _ _ (fun h => absurd h (by decide)) ?_
                    clear hK K
                    refine wpAnyG_done (by decide +kernel) ?_ _
                    have fin := Lib.hid (reg_round HI2.out.1 HI2.out.2.1 HI2.out.2.2.1 HI2.out.2.2.2 hg3 (u := ⟨[chr t2], 1 + t1, 1 + t1 + t3⟩) (by exact hown2) ⟨chr_ae t2 (by omega), by simp only; omega, by simp only; omega, by simp only; omega⟩ l6)
                    clear hg2 hg3 hown2 hat2 hkp hS z2 lz
                    go_wp2_with (fail)
                    exact ⟨⟨us ++ [⟨[chr t2], 1 + t1, 1 + t1 + t3⟩], A9, c9, by rw [List.length_append, List.length_singleton]; omega, by rw [List.length_append, List.length_singleton]; go_num, fin⟩, by simp [intOf]; omega⟩
                · go_simp
                  refine (R3.out _).mono ?_
                  rintro e w' ⟨rfl, rfl⟩
                  try dsimp only
                  refine hK _ _ (fun _ => hS) ?_
                  clear hK K
                  repeat (first | (refine wpAnyG_take (i := 16) (v := .int .i64 (1 + t1 + t3)) rfl ?_ ?_ ?_ (fun _ _ _ h => h) (Or.inl ⟨by rfl, ?_⟩) hS ?_; (· decide +kernel); (· decide +kernel); (· decide +kernel); (· (intro w' hS'; go_simp))))
                  refine wpAnyG_ready (rs := [9]) (by decide +kernel) (by simp) ?_
                  refine AllReadyG.cons rfl (fun K hK => ?_) AllReadyG.nil
                  go_simp
                  have hS : (World.drew (wr.alloc (.cells #[.int .u8 ((chr t2).toNat : Nat)] 5))).cell? ⟨B, 2, none⟩ = some (.slice Au us.length cu) := (HI2.out.1.alloc (.cells #[.int .u8 ((chr t2).toNat : Nat)] 5)).cell 2
                  refine hK _ _ (fun _ => hS) ?_
                  clear hK K
                  refine wpAnyG_ready (rs := [10]) (by decide +kernel) (by simp) ?_
                  refine AllReadyG.cons rfl (fun K hK => ?_) AllReadyG.nil
                  go_simp
                  refine hK _ _ (fun _ => hS) ?_
                  clear hK K
                  repeat (first | (refine wpAnyG_take (i := 17) (v := .agg #[str [chr t2], .int .i64 (1 + t1), .int .i64 (1 + t1 + t3)]) rfl ?_ ?_ ?_ (fun _ _ _ h => h) (Or.inl ⟨by rfl, ?_⟩) hS ?_; (· decide +kernel); (· decide +kernel); (· decide +kernel); (· (intro w' hS'; go_simp))))
                  refine wpAnyG_ready (rs := [18]) (by decide +kernel) (by simp) ?_
                  refine AllReadyG.cons rfl (fun K hK => ?_) AllReadyG.nil
                  go_simp
                  have hS : (World.drew ((wr.alloc (.cells #[.int .u8 ((chr t2).toNat : Nat)] 5)).alloc (.cells (usc ⟨[chr t2], 1 + t1, 1 + t1 + t3⟩).toArray 56))).cell? ⟨B, 2, none⟩ = some (.slice Au us.length cu) := ((HI2.out.1.alloc (.cells #[.int .u8 ((chr t2).toNat : Nat)] 5)).alloc (.cells (usc ⟨[chr t2], 1 + t1, 1 + t1 + t3⟩).toArray 56)).cell 2
                  refine hK _ _ (fun _ => hS) ?_
                  clear hK K
                  refine wpAnyG_ready (rs := [19]) (by decide +kernel) (by simp) ?_
                  refine AllReadyG.cons rfl (fun K hK => ?_) AllReadyG.nil
                  refine step_app_us _ rfl (.tmp 49) (.tmp 66) (by rfl) (base := W6.heap.size) (v := .slice Au us.length cu) (n := us.length) (xs := uss us) (by exact (HI2.out.2.1.alloc (.cells #[.int .u8 ((chr t2).toNat : Nat)] 5)).alloc (.cells (usc ⟨[chr t2], 1 + t1, 1 + t1 + t3⟩).toArray 56)) rfl (D := Any) (A := some ⟨wr.heap.size + 1, 0, none⟩) (m := 1) (news := usc ⟨[chr t2], 1 + t1, 1 + t1 + t3⟩) (c := 1) (by exact Rd2.out) (by first | rfl | simp) (by simp [usc, Value.oneCell']) (by omega) (by first | omega | (simp; omega)) ?_
                  intro v2 w2 hown2 hg2 hat2
                  obtain ⟨A9, c9, rfl, _⟩ := own_form hown2
                  have hg3 : ((wr.alloc (.cells #[.int .u8 ((chr t2).toNat : Nat)] 5)).alloc (.cells (usc ⟨[chr t2], 1 + t1, 1 + t1 + t3⟩).toArray 56)).grownBy w2 (Value.slice Au us.length cu).ownBlock := ⟨hg2.os, hg2.tape, hg2.output, hg2.size, hg2.block⟩
                  have hkp := ((HI2.out.1.alloc (.cells #[.int .u8 ((chr t2).toNat : Nat)] 5)).alloc (.cells (usc ⟨[chr t2], 1 + t1, 1 + t1 + t3⟩).toArray 56)).grown hg3 (fun e => by have := (HI2.out.2.1.lt _ e.symm).1; omega)
                  have hS : w2.cell? ⟨B, 2, none⟩ = some (.slice Au us.length cu) := hkp.cell 2
                  have z2 := hkp.frozen 2
                  have lz := hkp.lt
                  refine hK _ _ (fun _ => hS) ?_
                  clear hK K
                  repeat (first | (refine wpAnyG_take (i := 20) (v := .pointer (some ⟨B, 2, none⟩)) rfl ?_ ?_ ?_ (fun _ _ _ h => h) (Or.inl ⟨by rfl, ?_⟩) hS ?_; (· decide +kernel); (· decide +kernel); (· decide +kernel); (· (intro w' hS'; go_simp))))
                  refine wpAnyG_ready (rs := [21]) (by decide +kernel) (by simp) ?_
                  refine AllReadyG.cons rfl (fun K hK => ?_) AllReadyG.nil
                  go_simp
                  refine hK _ _ (fun h => absurd h (by decide)) ?_
                  clear hK K
                  refine wpAnyG_done (by decide +kernel) ?_ _
                  have fin := Lib.hid (reg_round HI2.out.1 HI2.out.2.1 HI2.out.2.2.1 HI2.out.2.2.2 hg3 (u := ⟨[chr t2], 1 + t1, 1 + t1 + t3⟩) (by exact hown2) ⟨chr_ae t2 (by omega), by simp only; omega, by simp only; omega, by simp only; omega⟩ l6)
                  clear hg2 hg3 hown2 hat2 hkp hS z2 lz
                  go_wp2_with (fail)
                  exact ⟨⟨us ++ [⟨[chr t2], 1 + t1, 1 + t1 + t3⟩], A9, c9, by rw [List.length_append, List.length_singleton]; omega, by rw [List.length_append, List.length_singleton]; go_num, fin⟩, by simp [intOf]; omega⟩
                -- END OF REGION 14
              · have hbW : Below wo.heap.size wo wr := Below.of_in H6.out.1 HI2.out.2.2.1 (fun b hb => by omega) H6.out.1.size
                obtain ⟨z1, z2, z3⟩ := own_reads (by omega) HI2.out.2.1
                obtain ⟨vss, hownW, hfin⟩ := reg_push HI.out.1 HI.out.2.1 HI.out.2.2 hbW h20 (m := ⟨[chr q], 1 + r, us⟩) H6.out.2.2 ⟨by simp only; omega, HI2.out.2.2.2⟩ (Au := Au) (nu := us.length) (cu := cu) rfl z1 z2 (z3.imp (by omega) fun b hb _ => Nat.le_trans H6.out.1.size hb)
                have HW := Lib.hid hownW
                have HFin := Lib.hid hfin
                have hbs := hbW.size
                have hbws := HI.out.2.2.size
                clear hownW hfin z1 z2 z3 hbW
                go_wp2_with (at_builtin; refine app_md _ rfl (.tmp 70) (.tmp 72) rfl (HW.out.alloc (.cells [str [chr q], .int .i64 (1 + (r : Int)), .slice Au us.length cu].toArray 52)) rfl (Reads.new wr [str [chr q], .int .i64 (1 + (r : Int)), .slice Au us.length cu] 3 1 52 Any trivial rfl) rfl (by simp [Value.oneCell']) (by omega) (by simp; omega) ?_; intro v9 w9 hown9 hg9 hat9; obtain ⟨A9, c9, rfl, _⟩ := own_form hown9; have fin := Lib.hid (HFin.out w9 A9 c9 hown9 _ hg9 hat9); clear hown9 hg9 hat9)
                exact ⟨⟨i + 1, A9, c9, ms ++ [⟨[chr q], 1 + r, us⟩], by omega, by go_num, by rw [List.length_append, List.length_singleton], by rw [List.length_append, List.length_singleton]; have := HI.out.2.1.ln; omega, fin⟩, by simp [intOf]; omega⟩
      · by_cases h4 : 0 < r
        · have g1 : decide ((r : Int) > 0) = true := decide_eq_true (by omega)
          clear hW6 hB
          go_wp2_with (fail)
          exact ⟨⟨i + 1, A3, c3, ms, by omega, by go_num, rfl, hms, ⟨HI.out.1, HI.out.2.1.wide (by omega), HI.out.2.2⟩⟩, by simp [intOf]; omega⟩
        · have g1 : decide ((r : Int) > 0) = false := decide_eq_false (by omega)
          have g2 : decide (0 < r) = false := decide_eq_false (by omega)
          have R0 := Lib.hid (fun W => rest_q 0 3 W 0 (by unfold I64; omega) (by omega) (by omega) rfl)
          go_upto_region 10 with (fail)
          rw [← hW6, ← hB]
          clear hW6 hB cv
          go_wp2_with (go_at_call 16; (with_reducible refine (R0.out _).mono ?_); rintro e w' ⟨rfl, rfl⟩)
          refine wp_loop_rounds 1 ?_
          rw [rounds_succ]
          have x0 := H6.out.2.1.cell 0
          have x1 := H6.out.2.1.cell 1
          have x2 := H6.out.2.1.cell 2
          simp only [List.getElem?_cons_zero, List.getElem?_cons_succ] at x0 x1 x2
          obtain ⟨vss, hownW, hfin⟩ := reg_push HI.out.1 HI.out.2.1 HI.out.2.2 H6.out.1 h20 (m := ⟨[chr q], 1 + r, []⟩) H6.out.2.2 ⟨by simp, by simp⟩ (Au := none) (nu := 0) (cu := 0) rfl (Nat.le_refl _) (Nat.zero_le _) Reads.empty
          have HW := Lib.hid hownW
          have HFin := Lib.hid hfin
          have hb6s := H6.out.1.size
          have hbws := HI.out.2.2.size
          clear hownW hfin
          go_wp2_with (at_builtin; refine app_md _ rfl (.tmp 70) (.tmp 72) rfl (HW.out.alloc (.cells [str [chr q], .int .i64 (1 + (r : Int)), .slice none 0 0].toArray 52)) rfl (Reads.new W6 [str [chr q], .int .i64 (1 + (r : Int)), .slice none 0 0] 3 1 52 Any trivial rfl) rfl (by simp [Value.oneCell']) (by omega) (by simp; omega) ?_; intro v9 w9 hown9 hg9 hat9; obtain ⟨A9, c9, rfl, _⟩ := own_form hown9; have fin := Lib.hid (HFin.out w9 A9 c9 hown9 _ hg9 hat9); clear hown9 hg9 hat9)
          exact ⟨⟨i + 1, A9, c9, ms ++ [⟨[chr q], 1 + r, []⟩], by omega, by go_num, by rw [List.length_append, List.length_singleton], by rw [List.length_append, List.length_singleton]; have := HI.out.2.1.ln; omega, fin⟩, by simp [intOf]; omega⟩
    · obtain rfl : i = 20 := by omega
      go_wp2_with (fail)
      go_ret
      exact ⟨A3, c3, ms, rfl, HI.out.1, HI.out.2.1, HI.out.2.2⟩
end Go.Proofs.YtpdjeaiojfghnaaDoor
