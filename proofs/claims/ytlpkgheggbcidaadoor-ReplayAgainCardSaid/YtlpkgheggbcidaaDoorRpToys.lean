/- Contracts of package replay's New, and of the laws' toys: a world of actors by scripts. -/
import Derived.Test.YtlpkgheggbcidaaDoorRpTold
import Derived.Test.YtlpkgheggbcidaaDoorRest
import Derived.Carry
set_option linter.unusedVariables false
namespace Go.Mem
open Go.RowKit
theorem cut_h {P : Program} {size n c : Nat} {A : Option Addr} (t e : TypeId) (ht : P.underlying t = some (.slice e)) (hi : (P.info? e).map (·.size) = some size) (k : Nat) (hk : k ≤ c) (W : World) :
    (Instr.slice t (.slice A n c) none (some (.int .i64 (k : Int))) none).run P W = .ok (.slice A k c) W := by
  obtain ⟨inf, hinf, hsz⟩ := Option.map_eq_some_iff.1 hi
  have he : P.elem t = e := by simp [Program.elem, ht]
  rw [run_slice_h W t A n c (by rw [he]; exact ht) .i64 _ (by omega) (by omega)]
  cases A <;> simp [he, sizeOf, typeInfo, hinf, hsz, sliced, Addr.add]
end Go.Mem
namespace Go.Proofs.YtlpkgheggbcidaaDoor
open Go.RowKit Go.Mem Go.Rp Go.Maps
/-- the letter of a raw number -/
def nameQ (n : Int) : UInt8 := UInt8.ofNat (97 + (restI n 5).toNat)
theorem nameQ_nat (n : Int) : ((nameQ n).toNat : Int) = 97 + restI n 5 ∧ 97 ≤ (nameQ n).toNat := by
  have h := restI_bd n 5 (by omega)
  have h5 : 97 + (restI n 5).toNat < 256 := by omega
  unfold nameQ
  rw [UInt8.toNat_ofNat', Nat.mod_eq_of_lt (by simpa using h5)]
  omega
def spawnsF (s : Wd) (st : List Int) : Nat → Wd
  | 0 => s
  | k + 1 => match st[k]? with
    | some n => if k < 5 then (spawnF (spawnsF s st k) [nameQ n] [⟨2, (k : Int)⟩]).1 else spawnsF s st k
    | none => spawnsF s st k
def sendsF (s : Wd) (st : List Int) : Nat → Wd
  | 0 => s
  | k + 1 => match st[k]? with
    | some n => if k < 5 then putF (sendsF s st k) 0 (1 + restI n 5) ⟨2, n⟩ else sendsF s st k
    | none => sendsF s st k
def toysF (tv : List (List Int)) (st : List Int) : Wd := sendsF (spawnsF ⟨tv, [], [], []⟩ st st.length) st st.length
theorem spawns_inv {s : Wd} {n : Nat} (h : Inv s n) (st : List Int) : ∀ k, Inv (spawnsF s st k) n
  | 0 => h
  | k + 1 => by
    unfold spawnsF
    split
    · split
      · exact (spawns_inv h st k).spawn _ _
      · exact spawns_inv h st k
    · exact spawns_inv h st k
theorem sends_inv {s : Wd} {n : Nat} (h : Inv s n) (st : List Int) : ∀ k, Inv (sendsF s st k) (n + min k 5)
  | 0 => h.le (by omega)
  | k + 1 => by
    have ih := sends_inv h st k
    unfold sendsF
    split
    · split
      · rename_i hk
        exact ((ih.put 0 _ _).le (by omega))
      · exact ih.le (by omega)
    · exact ih.le (by omega)
theorem toys_inv (tv : List (List Int)) (st : List Int) : Inv (toysF tv st) 5 := by
  have h0 : Inv (⟨tv, [], [], []⟩ : Wd) 0 := ⟨by simp, fun k => by simp [wayF, mget_nil], fun i a ha => by simp at ha, by simp, fun i a ha => by simp at ha⟩
  exact (sends_inv (spawns_inv h0 st st.length) st st.length).le (by omega)
def NewPost (w : World) (B : Nat) (tv : List (List Int)) (e : Ending) (w' : World) : Prop := ∃ T col, e = .returned (.pointer (some ⟨T, 0, none⟩)) ∧ WdAt w' B T col ⟨tv, [], [], []⟩ ∧ (∀ b, b < w.heap.size → col b = .out) ∧ Below w.heap.size w w'
set_option maxRecDepth 100000 in
theorem new_any (w : World) (B : Nat) (hB : B ≤ w.heap.size) (A : Option Addr) (c : Nat) (tv : List (List Int)) (h : TvAt w B A c tv) (L : Nat) (hL : L = tv.length) :
    Calls Tryd.prog 14 #[.iface 49 (.slice A L c)] w (NewPost w B tv) := by
  subst hL
  obtain ⟨w2, hw2⟩ : ∃ W, W = (w.alloc (.map #[] 0)).alloc (.cells #[.iface 49 (.slice A tv.length c), .slice none 0 0, .map (some w.heap.size), .slice none 0 0] 75) := ⟨_, rfl⟩
  have b1 : Below w.heap.size w (w.alloc (.map #[] 0)) := (Below.refl _ _).alloc (Nat.le_refl _) _
  have b2 : Below w.heap.size w w2 := by rw [hw2]; exact b1.alloc (by simp) _
  have fT : Blk w2 (w.heap.size + 1) 75 [.iface 49 (.slice A tv.length c), .slice none 0 0, .map (some w.heap.size), .slice none 0 0] := by
    have := Blk.new (w.alloc (.map #[] 0)) 75 [.iface 49 (.slice A tv.length c), .slice none 0 0, .map (some w.heap.size), .slice none 0 0]
    rw [show (w.alloc (.map #[] 0)).heap.size = w.heap.size + 1 by simp] at this
    rw [hw2]
    exact this
  have mp : MapOf encK okK w2 w.heap.size ([] : List ((Nat × Nat) × Value)) := by rw [hw2]; exact (MapOf.new w).alloc _
  have FIN : NewPost w B tv (.returned (.pointer (some ⟨w.heap.size + 1, 0, none⟩))) w2 := by
    refine ⟨w.heap.size + 1, recol (fun _ => .out) w.heap.size .base, rfl, ⟨A, c, .slice none 0 0, [], w.heap.size, [], .slice none 0 0, ?_⟩, fun b hb => recol_old hb, b2⟩
    exact ⟨fT, h.keep (Same.any b2), Seg.nil _ _ _, ⟨rfl, fun i x hx => by simp at hx⟩, mp, ⟨rfl, fun k v c h1 _ => by simp [mget_nil] at h1⟩, Seg.nil _ _ _, recol_new (by omega), recol_new (Nat.le_refl _), fun b hb => by simp [Value.ownBlock] at hb, fun b hb => by simp [Value.ownBlock] at hb, fun b hb => recol_old (by omega), Nat.le_trans hB b2.size⟩
  have HF := Lib.hid FIN
  have HW := Lib.hid hw2
  clear FIN mp fT b2 b1 hw2 h
  have hmm := @run_makeMap Tryd.prog
  go_enter Tryd.func14, Tryd.ntmps14
  go_wp2_with (fail)
  go_ret
  rw [← HW.out]
  exact HF.out
theorem TvAt.take {w : World} {B : Nat} {A : Option Addr} {c : Nat} {tv : List (List Int)} (h : TvAt w B A c tv) (k : Nat) : TvAt w B A c (tv.take k) := by
  obtain ⟨h1, h2, xs, h3, h4⟩ := h
  have hl : (tv.take k).length ≤ tv.length := by rw [List.length_take]; omega
  refine ⟨by omega, h2, xs.take (tv.take k).length, by have := h3.first hl; simpa using this, fun i s hs => ?_⟩
  have hi := (List.getElem?_eq_some_iff.1 hs).1
  have hs2 : tv[i]? = some s := by
    rw [List.getElem?_take] at hs
    split at hs
    · exact hs
    · cases hs
  obtain ⟨Ai, ci, h5, h6⟩ := h4 i s hs2
  exact ⟨Ai, ci, by rw [List.getElem?_take, if_pos hi]; exact h5, h6⟩
theorem TvAt.wide {w : World} {B B' : Nat} {A : Option Addr} {c : Nat} {tv : List (List Int)} (h : TvAt w B A c tv) (hB : B ≤ B') : TvAt w B' A c tv := by
  obtain ⟨h1, h2, xs, h3, h4⟩ := h
  exact ⟨h1, h2, xs, h3.imp (by omega) fun b hb _ => Nat.lt_of_lt_of_le hb hB, fun i s hs => by
    obtain ⟨Ai, ci, h5, h6, h7⟩ := h4 i s hs
    exact ⟨Ai, ci, h5, h6.imp (by omega) fun b hb _ => Nat.lt_of_lt_of_le hb hB, h7⟩⟩
theorem Stp.below_of {col col' : Nat → Cl} {w w' : World} {B : Nat} (h : Stp col col' w w') (low : ∀ b, b < B → col b = .out) (hB : B ≤ w.heap.size) : Below B w w' :=
  ⟨h.g.os, h.g.tape, h.g.output, h.g.size, fun b hb => h.g.block b (Nat.lt_of_lt_of_le hb hB) (fun hc => hc (low b hb))⟩
def ToysPost (w : World) (B : Nat) (s : Wd) (e : Ending) (w' : World) : Prop := ∃ T col, e = .returned (.tuple #[.pointer (some ⟨T, 0, none⟩), .bool true]) ∧ WdAt w' B T col s ∧ (∀ b, b < w.heap.size → col b = .out) ∧ Below w.heap.size w w'
theorem spawn_one : spawnF ⟨[[0]], [], [], []⟩ [97] [] = (⟨[[0]], [newA ⟨[0], 0, 0, 1, false, false, ⟨0, 0, [], ⟨0, 0⟩, []⟩⟩], [], []⟩, 1) := by rfl
set_option maxRecDepth 100000 in
set_option maxHeartbeats 8000000 in
theorem toys_any (w : World) (B : Nat) (hB : B ≤ w.heap.size) (A : Option Addr) (n c : Nat) (tv : List (List Int)) (hn : n = tv.length) (h : TvAt w B A c tv) (SA : Option Addr) (sn sc : Nat) (st : List Int) (hsn : sn = st.length) (hsm : sn ≤ 9223372036854775807) (hr : Reads w (fun b => b < w.heap.size) 1 SA sn (nums st)) (hi : ∀ x ∈ st, I64 x) :
    Calls Tryd.prog 4 #[.slice A n c, .slice SA sn sc] w (ToysPost w B (toysF (tv.take 5) st)) := by
  obtain ⟨k, hk⟩ : ∃ k, k = min n 5 := ⟨_, rfl⟩
  have hmin : ∀ (ts : Array TypeId) (t : TypeId) (W : World), (Builtin.min_ ts t #[.int .i64 (n : Int), .int .i64 5]).run Tryd.prog W = .ok (.int .i64 (k : Int)) W := fun ts t W => by
    rw [run_min_int2]
    have : (if (5 : Int) < (n : Int) then (5 : Int) else (n : Int)) = (k : Int) := by split <;> omega
    rw [this]
  have hnc : n ≤ c := by rw [hn]; exact h.1
  have hsl := fun (W : World) => cut_h (P := Tryd.prog) (n := n) (c := c) (A := A) 22 23 Tryd.underlying22 (size := 1) (by kernel_rfl) k (by omega) W
  have hkl : k = (tv.take 5).length := by rw [List.length_take, hk, hn]; omega
  have NW := Lib.hid (new_any w B hB A c (tv.take 5) (TvAt.take h 5) k hkl)
  have HR := Lib.hid (And.intro hr (And.intro hsn hi))
  obtain ⟨s0, hs0⟩ : ∃ s0 : Wd, s0 = ⟨tv.take 5, [], [], []⟩ := ⟨_, rfl⟩
  have HS0 := Lib.hid hs0
  clear h hr hn hk hsn hi hkl hs0
  go_enter Tryd.func4, Tryd.ntmps4
  go_wp2_with (fail)
  refine NW.out.mono ?_
  rintro e w2 ⟨T, col, rfl, hW, hlow, hb2⟩
  rw [← HS0.out] at hW
  clear hmin hsl
  -- the other world, of one actor
  obtain ⟨w3, hw3⟩ : ∃ W, W = (w2.alloc (.cells #[.int .i64 0] 3)).alloc (.cells #[.slice (some ⟨w2.heap.size, 0, none⟩) 1 1] 23) := ⟨_, rfl⟩
  have b3a : Below w2.heap.size w2 (w2.alloc (.cells #[.int .i64 0] 3)) := (Below.refl _ _).alloc (Nat.le_refl _) _
  have b23 : Below w2.heap.size w2 w3 := by rw [hw3]; exact b3a.alloc (by simp) _
  have f1 : Blk w3 w2.heap.size 3 [.int .i64 0] := by rw [hw3]; exact (Blk.new w2 _ [.int .i64 0]).alloc _
  have f2 : Blk w3 (w2.heap.size + 1) 23 [.slice (some ⟨w2.heap.size, 0, none⟩) 1 1] := by
    have := Blk.new (w2.alloc (.cells #[.int .i64 0] 3)) 23 [.slice (some ⟨w2.heap.size, 0, none⟩) 1 1]
    rw [show (w2.alloc (.cells #[.int .i64 0] 3)).heap.size = w2.heap.size + 1 by simp] at this
    rw [hw3]
    exact this
  have tv1 : TvAt w3 w3.heap.size (some ⟨w2.heap.size + 1, 0, none⟩) 1 [[0]] := by
    refine ⟨Nat.le_refl _, by unfold maxLen; omega, [.slice (some ⟨w2.heap.size, 0, none⟩) 1 1], ⟨rfl, fun _ => ⟨_, _, rfl, f2.lt, fun j u hu => by rw [f2.cell, Nat.zero_add]; exact hu⟩⟩, fun i s hs => ?_⟩
    obtain rfl : i = 0 := by
      have := (List.getElem?_eq_some_iff.1 hs).1
      simp at this
      exact this
    obtain rfl : [0] = s := by simpa using hs
    exact ⟨some ⟨w2.heap.size, 0, none⟩, 1, rfl, ⟨rfl, fun _ => ⟨_, _, rfl, f1.lt, fun j u hu => by rw [f1.cell, Nat.zero_add]; exact hu⟩⟩, Nat.le_refl _, by unfold maxLen; omega⟩
  have NW1 := Lib.hid (new_any w3 w3.heap.size (Nat.le_refl _) (some ⟨w2.heap.size + 1, 0, none⟩) 1 [[0]] tv1 1 rfl)
  have H2 := Lib.hid (And.intro hW (And.intro hb2 b23))
  have HLOW := Lib.hid hlow
  have HW3 := Lib.hid hw3
  clear b3a b23 f1 f2 tv1 hW hb2 hw3 NW hlow
  go_wp2_with (fail)
  rw [← HW3.out]
  refine NW1.out.mono ?_
  rintro e w4 ⟨T1, col1, rfl, hW1, _, hb4⟩
  obtain ⟨A1, c1, av1, ps1, M1, l1, sv1, hW1⟩ := hW1
  have SP := spawn_any w4 w3.heap.size T1 col1 _ hW1 97 (by decide) none 0 0 [] rfl (by simp) Reads.empty (Nat.le_refl _) (fun _ => ⟨rfl, rfl⟩) (by simp)
  rw [spawn_one] at SP
  have HP := Lib.hid SP
  have H4 := Lib.hid (And.intro hb4 (And.intro hW1.low hW1.lB))
  clear SP hb4 hW1 NW1
  go_wp2_with (fail)
  refine HP.out.mono ?_
  rintro e w5 ⟨k5, rfl, hk5, col5, A5, c5, av5, ps5, M5, l5, sv5, h5, _, st5⟩
  have k0 : k5 = 0 := by
    by_cases e : k5 = 0
    · exact e
    · exact absurd (hk5 e) (by decide)
  subst k0
  have b45 := st5.below_of H4.out.2.1 H4.out.2.2
  have b35 : Below w3.heap.size w3 w5 := H4.out.1.trans (b45.mono (Nat.le_refl _))
  have b25 : Below w2.heap.size w2 w5 := H2.out.2.2.trans (b35.mono H2.out.2.2.size)
  have hW5 := H2.out.1.below b25 .out
  have bw5 : Below w.heap.size w w5 := H2.out.2.1.trans (b25.mono H2.out.2.1.size)
  have low5 : ∀ b, b < w.heap.size → recol col w2.heap.size .out b = .out := fun b hb => by
    rw [recol_old (Nat.lt_of_lt_of_le hb H2.out.2.1.size)]
    exact HLOW.out b hb
  generalize recol col w2.heap.size .out = col at hW5 low5
  have H5 := Lib.hid (And.intro hW5 bw5)
  clear b45 b35 b25 hW5 bw5 st5 h5 hk5 H2 H4 HP HW3 HLOW
  go_wp2_with (fail)
  have LOW := Lib.hid low5
  clear low5
  have cells : ∀ (wr : World) (col' : Nat → Cl), Stp col col' w5 wr → ∀ k, k < sn → ∃ (b off : Nat) (x : Int), SA = some ⟨b, off, none⟩ ∧ st[k]? = some x ∧ I64 x ∧ wr.cell? ⟨b, off + k, none⟩ = some (.int .i64 x) := by
    intro wr col' hst k hk
    obtain ⟨b, off, u, e1, hb, hu, hc⟩ := HR.out.1.at_ hk
    have hkl : k < st.length := by rw [← HR.out.2.1]; exact hk
    have hu2 : u = .int .i64 st[k] := by
      rw [nums_at _ _ hkl] at hu
      injection hu with hu
      exact hu.symm
    subst hu2
    have hb : b < w.heap.size := hb
    have hB5 := H5.out.2.size
    exact ⟨b, off, st[k], e1, List.getElem?_eq_getElem hkl, HR.out.2.2 _ (List.getElem_mem hkl), (World.cell?_of_block (w := w5) (hst.g.block b (Nat.lt_of_lt_of_le hb hB5) (fun hc => hc (LOW.out b hb)))).trans ((H5.out.2.cell (p := ⟨b, off + k, none⟩) hb).trans hc)⟩
  have HC := Lib.hid cells
  have HI0 : Hid (Inv s0 0) := by unfold Hid; rw [HS0.out]; exact ⟨by simp, fun k => by simp [wayF, mget_nil], fun i a ha => by simp at ha, by simp, fun i a ha => by simp at ha⟩
  clear cells
  go_loopw [41] (fun i wr => ∃ k : Nat, k ≤ sn ∧ i = .int .i64 k ∧ Hid (∃ col', WdAt wr B T col' (spawnsF s0 st k) ∧ Stp col col' w5 wr)) (fun i _ => sn - (intOf i).toNat)
  case atStart => exact ⟨0, Nat.zero_le _, rfl, col, H5.out.1, Stp.refl _ _⟩
  case round =>
    obtain ⟨k, hk, rfl, hx⟩ := hrel
    by_cases hlt : k < sn
    · obtain ⟨col', hW, hst⟩ := hx.out
      obtain ⟨b, off, x, rfl, hx1, hx2, hc⟩ := HC.out wr col' hst k hlt
      have lb := lt_of_cell hc
      have i1 : (k : Int) < (sn : Int) := by omega
      have i0 : (0 : Int) ≤ (k : Int) := by omega
      by_cases h5 : k < 5
      · have hd5 : decide ((k : Int) < 5) = true := by simp; omega
        obtain ⟨r, hr0⟩ : ∃ r, r = restI x 5 := ⟨_, rfl⟩
        have hrb := restI_bd x 5 (by omega)
        obtain ⟨hq1, hq2⟩ := nameQ_nat x
        rw [← hr0] at hrb hq1
        obtain ⟨hrb0, hrb5⟩ := hrb
        have RS := Lib.hid (rest_q x 5 wr r hx2 (by omega) (by omega) hr0.symm)
        obtain ⟨wa, hwa⟩ : ∃ W, W = wr.alloc (.cells #[.int .u8 (97 + r)] 5) := ⟨_, rfl⟩
        obtain ⟨wb, hwb⟩ : ∃ W, W = wa.alloc (.cells #[.int .i64 2, .int .i64 (k : Nat), .string ⟨#[]⟩, .slice none 0 0] 56) := ⟨_, rfl⟩
        have ba : Below wr.heap.size wr wa := by rw [hwa]; exact (Below.refl _ _).alloc (Nat.le_refl _) _
        have bb : Below wr.heap.size wr wb := by rw [hwb]; exact ba.alloc ba.size _
        have hblk : Blk wa wr.heap.size 5 [.int .u8 (97 + r)] := by rw [hwa]; exact Blk.new wr _ _
        have hcv := conv_one wa wr.heap.size (97 + r) (nameQ x) hblk hq1
        have rd : Reads wb Any 4 (some ⟨wa.heap.size, 0, none⟩) 1 (cat vlC [⟨2, (k : Int)⟩]) := by
          rw [hwb, cat_one]
          exact Reads.new wa (vlC ⟨2, (k : Int)⟩) 4 1 _ Any trivial rfl
        have hWb := hW.below bb .out
        have stb := hst.trans (Stp.below bb .out)
        obtain ⟨A6, c6, av6, ps6, M6, l6, sv6, hW6⟩ := hWb
        have eG : wa.heap.size = wr.heap.size + 1 := by rw [hwa]; simp
        rw [eG] at rd
        have SP := Lib.hid (spawn_any wb B T _ _ hW6 (nameQ x) hq2 (some ⟨wr.heap.size + 1, 0, none⟩) 1 1 [⟨2, (k : Int)⟩] rfl (by simp) rd (Nat.le_refl _) (fun h => by omega) (by have := (spawns_inv HI0.out st k).acs; exact this))
        have e : spawnsF s0 st (k + 1) = (spawnF (spawnsF s0 st k) [nameQ x] [⟨2, (k : Int)⟩]).1 := by
          show (match st[k]? with | some n => if k < 5 then _ else _ | none => _) = _
          rw [hx1]
          simp only [if_pos h5]
        have HE := Lib.hid (And.intro e stb)
        have HWa := Lib.hid hwa
        have HWb := Lib.hid hwb
        have uw : IntKind.u8.wrap (97 + r) = 97 + r := by show (97 + r) % 256 = _; omega
        have hcv2 := hcv
        rw [hwa] at hcv2
        generalize nameQ x = q at hcv2 SP HE
        clear e stb hwa hwb eG hW6 hW hst hx hx1 hblk hcv rd ba bb hr0 hq1 hq2
        go_wp2_with (fail)
        refine RS.out.mono ?_
        rintro e w' ⟨rfl, rfl⟩
        go_wp2_with (fail)
        rw [← HWa.out, ← HWb.out]
        refine SP.out.mono ?_
        rintro e w7 ⟨k7, rfl, _, col7, A7, c7, av7, ps7, M7, l7, sv7, h7, _, st7⟩
        have HF := Lib.hid (And.intro (show WdAt w7 B T col7 _ from ⟨_, _, _, _, _, _, _, h7⟩) (HE.out.2.trans st7))
        clear h7 st7 hcv2 hc
        go_wp2_with (fail)
        go_roundw
        case rel =>
          first
            | exact ⟨k + 1, by omega, by go_num, _, by rw [HE.out.1]; exact HF.out.1, HF.out.2⟩
            | ((repeat apply Exists.intro); exact ⟨⟨k + 1, by omega, by go_num, _, by rw [HE.out.1]; exact HF.out.1, HF.out.2⟩, rfl⟩)
        case measure => simp [intOf]; omega
      · have hd5 : decide ((k : Int) < 5) = false := by simp; omega
        have e : spawnsF s0 st (k + 1) = spawnsF s0 st k := by
          show (match st[k]? with | some n => if k < 5 then _ else _ | none => _) = _
          rw [hx1]
          simp only [if_neg h5]
        have HF := Lib.hid (And.intro hW (And.intro hst e))
        clear hW hst e hx hx1
        go_wp2_with (fail)
        exact ⟨⟨k + 1, by omega, by go_num, col', by rw [HF.out.2.2]; exact HF.out.1, HF.out.2.1⟩, by simp [intOf]; omega⟩
    · obtain ⟨col', hW, hst⟩ := hx.out
      have H6 := Lib.hid (And.intro hW hst)
      clear hW hst hx
      obtain rfl : k = sn := by omega
      clear hk hlt
      go_wp2_with (fail)
      go_loopw [62] (fun i wr => ∃ j : Nat, j ≤ k ∧ i = .int .i64 j ∧ Hid (∃ col2, WdAt wr B T col2 (sendsF (spawnsF s0 st k) st j) ∧ Stp col col2 w5 wr)) (fun i _ => k - (intOf i).toNat)
      case atStart => exact ⟨0, Nat.zero_le _, rfl, col', H6.out.1, H6.out.2⟩
      case round =>
        obtain ⟨j, hj, rfl, hx⟩ := hrel
        rename World => wr
        obtain ⟨col2, hW, hst⟩ := hx.out
        by_cases hlt : j < k
        · obtain ⟨b, off, x, rfl, hx1, hx2, hc⟩ := HC.out wr col2 hst j hlt
          have lb := lt_of_cell hc
          have i1 : (j : Int) < (k : Int) := by omega
          have i0 : (0 : Int) ≤ (j : Int) := by omega
          by_cases h5 : j < 5
          · have hd5 : decide ((j : Int) < 5) = true := by simp; omega
            obtain ⟨r, hr0⟩ : ∃ r, r = restI x 5 := ⟨_, rfl⟩
            have hrb := restI_bd x 5 (by omega)
            rw [← hr0] at hrb
            obtain ⟨hrb0, hrb5⟩ := hrb
            have RS := Lib.hid (rest_q x 5 wr r hx2 (by omega) (by omega) hr0.symm)
            have hinv := sends_inv (spawns_inv HI0.out st k) st j
            have SE := send_any wr B T _ _ hW (1 + r) ⟨2, x⟩ hinv.acs (fun q => Nat.le_trans (hinv.ways q) (by omega))
            unfold vlV at SE
            have e : sendsF (spawnsF s0 st k) st (j + 1) = putF (sendsF (spawnsF s0 st k) st j) 0 (1 + r) ⟨2, x⟩ := by
              show (match st[j]? with | some n => if j < 5 then _ else _ | none => _) = _
              rw [hx1, hr0]
              simp only [if_pos h5]
            have HS := Lib.hid SE
            have HE := Lib.hid (And.intro e hst)
            clear e hW hst hx hx1 hr0 SE hinv
            go_wp2_with (fail)
            refine RS.out.mono ?_
            rintro e w' ⟨rfl, rfl⟩
            go_wp2_with (fail)
            refine HS.out.mono ?_
            rintro e w7 ⟨k7, rfl, col7, h7, st7⟩
            have HF := Lib.hid (And.intro h7 (HE.out.2.trans st7))
            clear h7 st7 hc
            go_wp2_with (fail)
            go_roundw
            case rel =>
              first
                | exact ⟨j + 1, by omega, by go_num, _, by rw [HE.out.1]; exact HF.out.1, HF.out.2⟩
                | ((repeat apply Exists.intro); exact ⟨⟨j + 1, by omega, by go_num, _, by rw [HE.out.1]; exact HF.out.1, HF.out.2⟩, rfl⟩)
            case measure => simp [intOf]; omega
          · have hd5 : decide ((j : Int) < 5) = false := by simp; omega
            have e : sendsF (spawnsF s0 st k) st (j + 1) = sendsF (spawnsF s0 st k) st j := by
              show (match st[j]? with | some n => if j < 5 then _ else _ | none => _) = _
              rw [hx1]
              simp only [if_neg h5]
            have HF := Lib.hid (And.intro hW (And.intro hst e))
            clear hW hst e hx hx1
            go_wp2_with (fail)
            exact ⟨⟨j + 1, by omega, by go_num, col2, by rw [HF.out.2.2]; exact HF.out.1, HF.out.2.1⟩, by simp [intOf]; omega⟩
        · obtain rfl : j = k := by omega
          have HF := Lib.hid (And.intro hW hst)
          clear hW hst hx
          go_wp2_with (fail)
          go_ret2
          have e : toysF (tv.take 5) st = sendsF (spawnsF s0 st j) st j := by
            unfold toysF
            rw [← HS0.out, ← HR.out.2.1]
          rw [e]
          refine ⟨T, col2, rfl, HF.out.1, fun b hb => (HF.out.2.c b (Nat.lt_of_lt_of_le hb H5.out.2.size)).2 (LOW.out b hb), ?_⟩
          exact H5.out.2.trans (HF.out.2.below_of LOW.out H5.out.2.size)
end Go.Proofs.YtlpkgheggbcidaaDoor
