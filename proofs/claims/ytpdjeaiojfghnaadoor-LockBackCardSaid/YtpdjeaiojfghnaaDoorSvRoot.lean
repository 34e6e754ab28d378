/- Contract of the laws' rootOf. -/
import Derived.Test.YtpdjeaiojfghnaaDoorSvRight
import Derived.Test.YtpdjeaiojfghnaaDoorNumD
import Derived.Deep.RegionHeldLaw
set_option linter.unusedVariables false
namespace Go.Sv
/-- a name from a to e -/
def AE (n : Nm) : Prop := ∃ c : UInt8, n = [c] ∧ 97 ≤ c.toNat ∧ c.toNat ≤ 101
theorem AE.letter {n : Nm} (h : AE n) : Letter n := by
  obtain ⟨c, e, h1, h2⟩ := h
  exact ⟨c, e, h1, by omega⟩
/-- a want of the laws -/
def UsAE (u : Us) : Prop := AE u.name ∧ 1 ≤ u.low ∧ u.low ≤ u.high ∧ u.high ≤ 5
theorem UsAE.ok {u : Us} (h : UsAE u) : UsOk u := ⟨h.1.letter, h.2.1, by have := h.2.2.2; omega, h.2.2.1⟩
end Go.Sv
namespace Go.Proofs.YtpdjeaiojfghnaaDoor
open Go.RowKit Go.Mem Go.Sv
def rsN (x m : Int) : Nat := (restI x m).toNat
theorem rsN_eq (x m : Int) (h : 0 < m) : restI x m = ((rsN x m : Nat) : Int) := by
  have := restI_bd x m h
  unfold rsN
  omega
theorem rsN_lt (x m : Int) (h : 0 < m) : (rsN x m : Int) < m := by
  have := restI_bd x m h
  unfold rsN
  omega
theorem I64.tdiv {x : Int} (h : I64 x) (m : Int) (hm : 2 ≤ m) : I64 (x.tdiv m) ∧ -4611686018427387904 ≤ x.tdiv m ∧ x.tdiv m ≤ 4611686018427387904 := by
  obtain ⟨h1, h2⟩ := h
  have key : ∀ y : Int, 0 ≤ y → y ≤ 9223372036854775808 → 0 ≤ y.tdiv m ∧ y.tdiv m ≤ 4611686018427387904 := by
    intro y h1 h2
    rw [Int.tdiv_eq_ediv_of_nonneg h1]
    have h3 := Int.ediv_nonneg h1 (show (0 : Int) ≤ m by omega)
    refine ⟨h3, ?_⟩
    have h4 := Int.mul_ediv_self_le (x := y) (k := m) (by omega)
    rcases Int.lt_or_le 4611686018427387904 (y / m) with h5 | h5
    · have : (2 : Int) * (y / m) ≤ m * (y / m) := Int.mul_le_mul_of_nonneg_right (by omega) h3
      omega
    · exact h5
  have h3 : -4611686018427387904 ≤ x.tdiv m ∧ x.tdiv m ≤ 4611686018427387904 := by
    rcases Int.lt_or_le x 0 with h | h
    · have h4 := key (-x) (by omega) (by omega)
      rw [Int.neg_tdiv] at h4
      omega
    · have h4 := key x h (by omega)
      omega
  unfold I64
  omega
/-- the letter of a number -/
def chr (q : Nat) : UInt8 := UInt8.ofNat (97 + q)
theorem chr_ae (q : Nat) (h : q < 5) : AE [chr q] := by
  refine ⟨chr q, rfl, ?_⟩
  unfold chr
  rw [UInt8.toNat_ofNat']
  omega
theorem chr_val (q : Nat) (h : q < 100) : (((chr q).toNat : Nat) : Int) = 97 + q := by
  unfold chr
  rw [UInt8.toNat_ofNat']
  omega
theorem chr_cv (w : World) (q : Nat) (e : TypeId) : (convert 53 9 (.slice (some ⟨w.heap.size, 0, none⟩) 1 1)).run Tryd.prog (w.alloc (.cells #[.int .u8 ((chr q).toNat : Nat)] e)) = .ok (str [chr q]) (w.alloc (.cells #[.int .u8 ((chr q).toNat : Nat)] e)) :=
  run_convert_reads _ _ _ _ Tryd.underlying53 Tryd.underlying5 Tryd.underlying9 (bs := [chr q]) (Reads.new w [.int .u8 ((chr q).toNat : Nat)] 1 1 e Any trivial rfl)
theorem step_app_us (w : World) {ops : Array Oper} {o : Oper} {a : Act} {K : Act → World → Prop} {Q : Exit → Act → World → Prop} {E : Prop} (hgd : o.guard = none) (s x : Operand)
    (ho : o.op = .call { callee := .builtin .append, args := #[s, x], argTypes := #[29, 29] })
    {base : Nat} {v : Value} {n : Nat} {xs : List Value} (hown : w.ownsRow base 56 3 v n xs) (hs : a.eval s = v)
    {D : Nat → Prop} {A : Option Addr} {m : Nat} {news : List Value} (hr : Reads w D 3 A m news) {c : Nat} (hx : a.eval x = .slice A m c) (h1 : ∀ u ∈ news, u.oneCell' = true)
    (h63 : n + m ≤ 100000000) (hbase : base ≤ w.heap.size)
    (h : ∀ v' w', w'.ownsRow base 56 3 v' (n + m) (xs ++ news) → w.grownBy w' v.ownBlock → (v'.ownBlock = v.ownBlock ∨ v'.ownBlock = some w.heap.size) → K (a.put o.dst v') w') :
    if Region.wanted o (yielded ops a.tmps) = true then Oper.wp Tryd.prog o a w K Q else E := by
  obtain ⟨i0, hi0, hz0, hz1, hz2⟩ := info_parts info_us
  exact step_append_any w hgd s x _ ho base _ i0 _ 3 32 Tryd.underlying29 hi0 hz0 hz1 hz2 rfl (by omega) v n xs hs hown D A m c news hx hr h1 (by simp only [maxLen]; omega) (by omega) hbase h
/-- the wants of the laws -/
def RootPost (w : World) : Ending → World → Prop := fun e w' => ∃ A c root, e = .returned (.slice A root.length c) ∧ OwnU w w' root A c ∧ root.length ≤ 3 ∧ ∀ u ∈ root, UsAE u
set_option maxRecDepth 100000 in
set_option maxHeartbeats 2000000 in
theorem rootOf_any (A : Option Addr) (n c : Nat) (l : List Int) (w : World) (hr : Reads w Any 1 A n (nums l)) (hn : n = l.length) (hnm : n ≤ maxLen) (hl : ∀ x ∈ l, I64 x) :
    Calls Tryd.prog 6 #[.slice A n c] w (RootPost w) := by
  have Hn := Lib.hid hn
  have Hl := Lib.hid hl
  have HR := Lib.hid hr
  have hn63 : n ≤ 9223372036854775807 := by unfold maxLen at hnm; omega
  clear hr hn hl hnm
  go_enter Tryd.func6, Tryd.ntmps6
  go_wp2_with (fail)
  go_loopw [3, 4, 5, 6, 9] (fun v3 _ _ _ v wr => ∃ (j : Nat) (A1 : Option Addr) (c1 : Nat) (out : List Us), j ≤ n ∧ v = .int .i64 j ∧ v3 = .slice A1 out.length c1 ∧ out.length ≤ 3 ∧ out.length ≤ j ∧ Hid (OwnU w wr out A1 c1 ∧ ∀ u ∈ out, UsAE u)) (fun _ _ _ _ v _ => n - (intOf v).toNat)
  case atStart => exact ⟨0, none, 0, [], Nat.zero_le _, rfl, rfl, by simp, by simp, OwnU.nil w, by simp⟩
  case round =>
    obtain ⟨j, A1, c1, out, hj, rfl, rfl, h3, hoj, HI⟩ := hrel
    by_cases hlt : j < n
    · have hjl : j < l.length := by have := Hn.out; omega
      obtain ⟨b1, o1, u, rfl, _, hu, p0⟩ := (HR.out.keep (Same.any HI.out.1.2)).at_ hlt
      rw [nums_at l j hjl] at hu
      injection hu with hu
      subst hu
      have hx := Hl.out _ (List.getElem_mem hjl)
      generalize l[j] = x at p0 hx
      by_cases h12 : j < 3
      · have x3 := I64.tdiv hx 3 (by omega)
        have x15 := I64.tdiv hx 15 (by omega)
        have R0 := Lib.hid (fun W => rest_q x 3 W ((rsN x 3 : Nat) : Int) hx (by omega) (by omega) (rsN_eq _ _ (by omega)))
        have R1 := Lib.hid (fun W => rest_q (x.tdiv 3) 5 W ((rsN (x.tdiv 3) 5 : Nat) : Int) x3.1 (by omega) (by omega) (rsN_eq _ _ (by omega)))
        have R2 := Lib.hid (fun W => rest_q (x.tdiv 15) 3 W ((rsN (x.tdiv 15) 3 : Nat) : Int) x15.1 (by omega) (by omega) (rsN_eq _ _ (by omega)))
        have b0 := rsN_lt x 3 (by omega)
        have b1' := rsN_lt (x.tdiv 3) 5 (by omega)
        have b2 := rsN_lt (x.tdiv 15) 3 (by omega)
        generalize rsN x 3 = q0 at R0 b0
        generalize rsN (x.tdiv 3) 5 = q1 at R1 b1'
        generalize rsN (x.tdiv 15) 3 = q2 at R2 b2
        have k0 : IntKind.i64.wrap (1 + (q0 : Int)) = 1 + (q0 : Int) := IntWalk.i64_in _ (by omega)
        have k1 : IntKind.i64.wrap (1 + (q0 : Int) + (q2 : Int)) = 1 + (q0 : Int) + (q2 : Int) := IntWalk.i64_in _ (by omega)
        have k2 : IntKind.i64.wrap (97 + (q1 : Int)) = 97 + (q1 : Int) := IntWalk.i64_in _ (by omega)
        have k3 : IntKind.i64.wrap (x.tdiv 3) = x.tdiv 3 := IntWalk.i64_in _ (by have := x3.2; omega)
        have k4 : IntKind.i64.wrap (x.tdiv 15) = x.tdiv 15 := IntWalk.i64_in _ (by have := x15.2; omega)
        have k5 : IntKind.u8.wrap (97 + (q1 : Int)) = ((chr q1).toNat : Nat) := by rw [chr_val q1 (by omega)]; exact (IntWalk.u8_in _ (by omega)).trans (by omega)
        have cv : (convert 53 9 (.slice (some ⟨wr.heap.size, 0, none⟩) 1 1)).run Tryd.prog (World.drew (wr.alloc (.cells #[.int .u8 ((chr q1).toNat : Nat)] 5))) = .ok (str [chr q1]) (World.drew (wr.alloc (.cells #[.int .u8 ((chr q1).toNat : Nat)] 5))) := chr_cv wr.drew q1 _
        have Rd2 := Lib.hid (show Reads ((wr.alloc (.cells #[.int .u8 ((chr q1).toNat : Nat)] 5)).alloc (.cells (usc ⟨[chr q1], 1 + q0, 1 + q0 + q2⟩).toArray 56)) Any 3 (some ⟨wr.heap.size + 1, 0, none⟩) 1 (usc ⟨[chr q1], 1 + q0, 1 + q0 + q2⟩) by
          have := Reads.new (D := Any) (wr.alloc (.cells #[.int .u8 ((chr q1).toNat : Nat)] 5)) (usc ⟨[chr q1], 1 + q0, 1 + q0 + q2⟩) 3 1 56 trivial rfl
          simpa using this)
        clear x3 x15 hx
        go_wp2_with (go_at_call 16; (with_reducible refine (R0.out _).mono ?_); rintro e w' ⟨rfl, rfl⟩)
        go_region_held_law (fun w' => True) (trivial) (first
          | (go_at_call 16; (with_reducible refine (R1.out _).mono ?_); rintro e w' ⟨rfl, rfl⟩)
          | (go_at_call 16; (with_reducible refine (R2.out _).mono ?_); rintro e w' ⟨rfl, rfl⟩)
          | (refine step_app_us _ rfl (.tmp 19) (.tmp 34) (by rfl) (base := w.heap.size) (v := .slice A1 out.length c1) (n := out.length) (xs := uss out) (by exact (HI.out.1.1.alloc (.cells #[.int .u8 ((chr q1).toNat : Nat)] 5)).alloc (.cells (usc ⟨[chr q1], 1 + q0, 1 + q0 + q2⟩).toArray 56)) rfl (D := Any) (A := some ⟨wr.heap.size + 1, 0, none⟩) (m := 1) (news := usc ⟨[chr q1], 1 + q0, 1 + q0 + q2⟩) (c := 1) (by exact Rd2.out) rfl (by simp [usc, Value.oneCell']) (by omega) (by have := HI.out.1.2.size; simp; omega) ?_; intro v2 w2 hown2 hg2 hat2; obtain ⟨A9, c9, rfl, _⟩ := own_form hown2))
        all_goals
          have hbl : Below w.heap.size w w2 := (((HI.out.1.2.alloc HI.out.1.2.size (.cells #[.int .u8 ((chr q1).toNat : Nat)] 5)).alloc (by have := HI.out.1.2.size; simp; omega) (.cells (usc ⟨[chr q1], 1 + q0, 1 + q0 + q2⟩).toArray 56))).grown ⟨hg2.os, hg2.tape, hg2.output, hg2.size, hg2.block⟩ (by have := HI.out.1.2.size; simp; omega) (fun k hk => (HI.out.1.1.lt k hk).1)
          have fin : Hid (OwnU w w2 (out ++ [⟨[chr q1], 1 + q0, 1 + q0 + q2⟩]) A9 c9 ∧ ∀ u ∈ out ++ [(⟨[chr q1], 1 + q0, 1 + q0 + q2⟩ : Us)], UsAE u) := by
            refine ⟨⟨?_, hbl⟩, fun u hu => ?_⟩
            · rw [uss_append, List.length_append, List.length_singleton]
              exact hown2
            · rcases List.mem_append.1 hu with hu | hu
              · exact HI.out.2 u hu
              · rw [List.mem_singleton] at hu
                subst hu
                exact ⟨chr_ae q1 (by omega), by simp only; omega, by simp only; omega, by simp only; omega⟩
          clear hbl hown2 hg2 hat2
          go_wp2_with (fail)
          exact ⟨⟨j + 1, A9, c9, out ++ [⟨[chr q1], 1 + q0, 1 + q0 + q2⟩], by omega, by go_num, by rw [List.length_append, List.length_singleton], by rw [List.length_append, List.length_singleton]; omega, by rw [List.length_append, List.length_singleton]; omega, fin⟩, by simp [intOf]; omega⟩
      · clear hx
        go_wp2_with (fail)
        exact ⟨⟨j + 1, A1, c1, out, by omega, by go_num, rfl, h3, by omega, HI.out⟩, by simp [intOf]; omega⟩
    · go_wp2_with (fail)
      go_ret
      exact ⟨A1, c1, out, rfl, HI.out.1, h3, HI.out.2⟩
end Go.Proofs.YtpdjeaiojfghnaaDoor
