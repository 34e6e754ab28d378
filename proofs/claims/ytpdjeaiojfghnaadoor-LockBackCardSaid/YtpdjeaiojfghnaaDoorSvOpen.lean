/- The search in memory; contract of its open. -/
import Derived.Test.YtpdjeaiojfghnaaDoorSvPick
import Derived.Test.YtpdjeaiojfghnaaDoorSvCheck
set_option linter.unusedVariables false
namespace Go.Sv
open Go.RowKit Go.Mem
/-- a module's value -/
def IsMd (v : Value) (m : Md) : Prop := ∃ A n c, v = .agg #[str m.name, .int .i64 (m.ver : Nat), .slice A n c]
/-- the entries of those that are picked -/
inductive PkRel : List (Nm × Value) → List Md → Prop
  | nil : PkRel [] []
  | cons {v : Value} {m : Md} {l : List (Nm × Value)} {pk : List Md} : IsMd v m → PkRel l pk → PkRel ((m.name, v) :: l) (m :: pk)
theorem PkRel.get {l : List (Nm × Value)} {pk : List Md} (h : PkRel l pk) (n : Nm) : (pickOf pk n = none → mget l n = none) ∧ ∀ m, pickOf pk n = some m → ∃ v, mget l n = some v ∧ IsMd v m := by
  induction h with
  | nil => exact And.intro (fun _ => rfl) (fun m h => by simp [pickOf] at h)
  | @cons v m l pk hv h ih =>
    rw [mget_cons]
    by_cases e : m.name = n
    · have hp : pickOf (m :: pk) n = some m := by simp [pickOf, e]
      rw [hp]
      refine ⟨fun h => (by cases h), fun q hq => ?_⟩
      injection hq with hq
      subst hq
      exact ⟨v, by simp [e], hv⟩
    · have hp : pickOf (m :: pk) n = pickOf pk n := by simp [pickOf, e]
      rw [hp]
      refine ⟨fun h => by simp [e, ih.1 h], fun q hq => ?_⟩
      obtain ⟨v', h1, h2⟩ := ih.2 q hq
      exact ⟨v', by simp [e, h1], h2⟩
theorem PkRel.snoc {l : List (Nm × Value)} {pk : List Md} (h : PkRel l pk) {m : Md} {v : Value} (hv : IsMd v m) : PkRel (l ++ [(m.name, v)]) (pk ++ [m]) := by
  induction h with
  | nil => exact .cons hv .nil
  | cons hv' h ih => exact .cons hv' ih
theorem PkRel.names {l : List (Nm × Value)} {pk : List Md} (h : PkRel l pk) : l.map (·.1) = pk.map (·.name) := by
  induction h with
  | nil => rfl
  | cons _ _ ih => simp [ih]
theorem mdel_snoc {l : List (Nm × Value)} {n : Nm} {v : Value} (h : ∀ p ∈ l, p.1 ≠ n) : mdel (l ++ [(n, v)]) n = l := by
  unfold mdel
  rw [List.filter_append]
  have h1 : l.filter (fun p => !decide (p.1 = n)) = l := List.filter_eq_self.2 fun p hp => by simp [h p hp]
  rw [h1]
  simp
def Ap2 (S PK : Nat) (q : Nat) : Prop := q ≠ S ∧ q ≠ PK
end Go.Sv
namespace Go.Proofs.YtpdjeaiojfghnaaDoor
open Go.RowKit Go.Mem Go.Sv Go.Maps
/-- the search's struct, what it knows, and what is picked -/
structure SearchAt (w : World) (S PK : Nat) (A1 : Option Addr) (n1 c1 : Nat) (ms : List Md) (A2 : Option Addr) (n2 c2 : Nat) (first : List Pk) (Aw : Option Addr) (nw cw : Nat) (ws : List Us) (l : List (Nm × Value)) : Prop where
  blk : Blk w S 44 [.slice A1 n1 c1, .slice A2 n2 c2, .map (some PK), .slice Aw nw cw]
  mp : MapOf str okS w PK l
  md : MdsAt w (Ap2 S PK) A1 n1 c1 ms
  fr : n2 = first.length ∧ Reads w (Ap2 S PK) 2 A2 n2 (pks first)
  wt : nw = ws.length ∧ nw ≤ cw ∧ cw ≤ maxLen ∧ Reads w (Ap2 S PK) 3 Aw nw (uss ws)
  ne : S ≠ PK
theorem zero_md : ∀ w : World, (zeroValue 52).run Tryd.prog w = .ok (.agg #[.string ⟨#[]⟩, .int .i64 0, .slice none 0 0]) w := fun _ => by kernel_rfl
section
variable {w w' : World} {S PK : Nat} {A1 A2 Aw : Option Addr} {n1 c1 n2 c2 nw cw : Nat} {ms : List Md} {first : List Pk} {ws : List Us} {l : List (Nm × Value)}
theorem SearchAt.below (h : SearchAt w S PK A1 n1 c1 ms A2 n2 c2 first Aw nw cw ws l) (hb : Below w.heap.size w w') : SearchAt w' S PK A1 n1 c1 ms A2 n2 c2 first Aw nw cw ws l :=
  ⟨h.blk.below hb h.blk.lt, h.mp.below hb, h.md.keep fun b _ hl => hb.block b hl, ⟨h.fr.1, h.fr.2.keep fun b _ hl => hb.block b hl⟩, ⟨h.wt.1, h.wt.2.1, h.wt.2.2.1, h.wt.2.2.2.keep fun b _ hl => hb.block b hl⟩, h.ne⟩
/-- s.picked[n], with the answer whether it is there -/
theorem SearchAt.look (h : SearchAt w S PK A1 n1 c1 ms A2 n2 c2 first Aw nw cw ws l) (n : Nm) (hn : n.length ≤ 65536) {v : Value} {b : Bool} (hv : (mget l n).getD (.agg #[.string ⟨#[]⟩, .int .i64 0, .slice none 0 0]) = v) (hb : (mget l n).isSome = b) (W : World) (hW : W.heap[PK]? = w.heap[PK]?) :
    (Instr.lookup 42 (.map (some PK)) (str n) true).run Tryd.prog W = .ok (.tuple #[v, .bool b]) W := by
  have := (h.mp.same hW).lookup enc_S Tryd.underlying42 zero_md (a := n) hn true
  rw [hv, hb, if_pos rfl] at this
  exact this
end
def OpenPost (w : World) (r : Option Nm) : Ending → World → Prop := fun e w' => e = .returned (.tuple #[str (r.getD []), .bool r.isSome]) ∧ Below w.heap.size w w'
set_option maxRecDepth 100000 in
set_option maxHeartbeats 2000000 in
theorem open_any (w : World) (S PK : Nat) (A1 : Option Addr) (n1 c1 : Nat) (ms : List Md) (A2 : Option Addr) (n2 c2 : Nat) (first : List Pk) (Aw : Option Addr) (nw cw : Nat) (ws : List Us) (l : List (Nm × Value)) (pk : List Md)
    (h : SearchAt w S PK A1 n1 c1 ms A2 n2 c2 first Aw nw cw ws l) (hr : PkRel l pk) (hws : ∀ u ∈ ws, UsOk u) (hl : nw ≤ 1000) :
    Calls Tryd.prog 29 #[.pointer (some ⟨S, 0, none⟩)] w (OpenPost w (openF pk ws)) := by
  have HS := Lib.hid h
  have HR := Lib.hid hr
  have HW := Lib.hid hws
  obtain ⟨R, hR⟩ : ∃ R, R = openF pk ws := ⟨_, rfl⟩
  rw [← hR]
  have HRR := Lib.hid hR
  unfold OpenPost
  have s3 := h.blk.cell 3
  simp only [List.getElem?_cons_zero, List.getElem?_cons_succ] at s3
  have lS := h.blk.lt
  clear h hr hws hR
  go_enter Tryd.func29, Tryd.ntmps29
  go_wp2_with (fail)
  go_loopw [4, 5, 15] (fun v4 v5 v wr => ∃ (j : Nat) (acc : Option Nm), j ≤ nw ∧ v = .int .i64 j ∧ v4 = str (acc.getD []) ∧ v5 = .bool acc.isSome ∧ Hid (acc = (ws.take j).foldl (openStep pk) none) ∧ Below w.heap.size w wr) (fun _ _ v _ => nw - (intOf v).toNat)
  case atStart => exact ⟨0, none, Nat.zero_le _, rfl, rfl, rfl, rfl, Below.refl _ _⟩
  case round =>
    obtain ⟨j, acc, hj, rfl, rfl, rfl, hacc, hb⟩ := hrel
    by_cases hlt : j < nw
    · have hjl : j < ws.length := by have := HS.out.wt.1; omega
      obtain ⟨b1, o1, rfl, _, r0, r1, r2⟩ := uss_cells HS.out.wt.2.2.2 hlt HS.out.wt.1
      have p0 := (Same.any (D := Any) hb).cell trivial r0
      have p1 := (Same.any (D := Any) hb).cell trivial r1
      have p2 := (Same.any (D := Any) hb).cell trivial r2
      have hu := HW.out _ (List.getElem_mem hjl)
      have hnx : (ws.take (j + 1)).foldl (openStep pk) none = openStep pk acc ws[j] := by
        rw [List.take_succ_eq_append_getElem hjl, List.foldl_append, ← hacc.out]
        rfl
      generalize ws[j] = u at p0 p1 p2 hu hnx
      obtain ⟨un, ul, uh⟩ := u
      obtain ⟨⟨ch, hch, _, _⟩, _, _, _⟩ := hu
      simp only at p0 p1 p2 hch
      have hun : un.length ≤ 65536 := by rw [hch]; simp
      clear hch
      obtain ⟨D, hD⟩ : ∃ D, D = wr.heap.size := ⟨_, rfl⟩
      obtain ⟨W, hW⟩ : ∃ W, W = wr.alloc (.cells #[str un, .int .i64 (ul : Nat), .int .i64 (uh : Nat)] 56) := ⟨_, rfl⟩
      have hbk : Blk W D 56 [str un, .int .i64 (ul : Nat), .int .i64 (uh : Nat)] := by rw [hW, hD]; exact Blk.new wr _ _
      have hbW : Below w.heap.size w W := by rw [hW]; exact hb.alloc hb.size _
      have hsW : SearchAt W S PK A1 n1 c1 ms A2 n2 c2 first (some ⟨b1, o1, none⟩) nw cw ws l := HS.out.below hbW
      have q2 := hsW.blk.cell 2
      simp only [List.getElem?_cons_zero, List.getElem?_cons_succ] at q2
      have lSW := hsW.blk.lt
      have e0 := hbk.cell 0
      simp only [List.getElem?_cons_zero] at e0
      have lD := hbk.lt
      obtain ⟨v, hv⟩ : ∃ v, (mget l un).getD (.agg #[.string ⟨#[]⟩, .int .i64 0, .slice none 0 0]) = v := ⟨_, rfl⟩
      obtain ⟨tb, htb⟩ : ∃ b, (mget l un).isSome = b := ⟨_, rfl⟩
      have hva : ∃ vs vn va vc, ∃ vi : Nat, v = .agg #[.string vs, .int .i64 (vi : Nat), .slice va vn vc] := by
        have hg := HR.out.get un
        cases hp : pickOf pk un with
        | none => rw [hg.1 hp] at hv; exact ⟨⟨#[]⟩, 0, none, 0, 0, hv.symm⟩
        | some m =>
          obtain ⟨v', h1, A, n, c, h2⟩ := hg.2 m hp
          rw [h1] at hv
          exact ⟨⟨m.name.toArray⟩, n, A, c, m.ver, by rw [← hv, ← h2]; rfl⟩
      have htp : (pickOf pk un).isNone = !tb := by
        have hg := HR.out.get un
        cases hp : pickOf pk un with
        | none => rw [hg.1 hp] at htb; rw [← htb]; rfl
        | some m =>
          obtain ⟨v', h1, _⟩ := hg.2 m hp
          rw [h1] at htb
          rw [← htb]
          rfl
      obtain ⟨vs, vn, va, vc, vi, rfl⟩ := hva
      have LK := Lib.hid (fun (W' : World) (hW' : W'.heap[PK]? = W.heap[PK]?) => hsW.look un hun hv htb W' hW')
      have hPK := hsW.mp.lt
      have lk0 := LK.out W.drew rfl
      have lk1 := LK.out ((W.alloc (.cells #[.string ⟨#[]⟩, .int .i64 0, .slice none 0 0] 52)).drew) (Below.heap_alloc W _ PK hPK)
      have HBW := Lib.hid (And.intro hbW hbk)
      have HNX := Lib.hid hnx
      clear r0 r1 r2 hv htb hsW hbW hbk hnx LK
      go_upto_region 5 with (fail)
      rw [← hW, ← hD]
      clear hW hD p0 p1 p2
      go_region
      all_goals
        have hb9 := HBW.out.1.alloc HBW.out.1.size (.cells #[.string vs, .int .i64 (vi : Nat), .slice va vn vc] 52)
        have HB9 := Lib.hid hb9
        clear lk0 lk1 hb9
        cases tb
        · have hnone : (pickOf pk un).isNone = true := htp
          rcases acc with _ | a
          · have hst : openStep pk none ⟨un, ul, uh⟩ = some un := by unfold openStep; simp [hnone, lessO]
            have HST := Lib.hid (HNX.out.trans hst)
            clear hst hnone htp hacc
            go_wp2_with (fail)
            exact ⟨⟨j + 1, some un, by omega, by go_num, rfl, rfl, HST.out.symm, ⟨HB9.out.os, HB9.out.tape, HB9.out.output, HB9.out.size, HB9.out.block⟩⟩, by simp [intOf]; omega⟩
          · have e1 : decide (un < a) = true ∨ decide (un < a) = false := by cases decide (un < a) <;> simp
            rcases e1 with e1 | e1
            · have hst : openStep pk (some a) ⟨un, ul, uh⟩ = some un := by unfold openStep; simp [hnone, lessO, e1]
              have HST := Lib.hid (HNX.out.trans hst)
              have bl : Op.bytesLess un a = true := by rw [bytesLess_eq]; exact e1
              clear hst hnone htp hacc e1
              go_wp2_with (fail)
              exact ⟨⟨j + 1, some un, by omega, by go_num, rfl, rfl, HST.out.symm, ⟨HB9.out.os, HB9.out.tape, HB9.out.output, HB9.out.size, HB9.out.block⟩⟩, by simp [intOf]; omega⟩
            · have hst : openStep pk (some a) ⟨un, ul, uh⟩ = some a := by unfold openStep; rw [if_neg (by simp [lessO, e1])]
              have HST := Lib.hid (HNX.out.trans hst)
              have bl : Op.bytesLess un a = false := by rw [bytesLess_eq]; exact e1
              clear hst hnone htp hacc e1
              go_wp2_with (fail)
              exact ⟨⟨j + 1, some a, by omega, by go_num, rfl, rfl, HST.out.symm, ⟨HB9.out.os, HB9.out.tape, HB9.out.output, HB9.out.size, HB9.out.block⟩⟩, by simp [intOf]; omega⟩
        · have hnone : (pickOf pk un).isNone = false := htp
          have hst : openStep pk acc ⟨un, ul, uh⟩ = acc := by unfold openStep; rw [if_neg (by simp [hnone])]
          have HST := Lib.hid (HNX.out.trans hst)
          clear hst hnone htp hacc
          go_wp2_with (fail)
          exact ⟨⟨j + 1, acc, by omega, by go_num, rfl, rfl, HST.out.symm, ⟨HB9.out.os, HB9.out.tape, HB9.out.output, HB9.out.size, HB9.out.block⟩⟩, by simp [intOf]; omega⟩
    · have hall : ws.take j = ws := List.take_of_length_le (by have := HS.out.wt.1; omega)
      have hfin := hacc.out
      rw [hall] at hfin
      have HF := Lib.hid (show R = acc by rw [HRR.out, hfin]; rfl)
      clear hall hfin hacc
      go_wp2_with (fail)
      go_ret2
      rw [HF.out]
      exact ⟨rfl, hb⟩
end Go.Proofs.YtpdjeaiojfghnaaDoor
