/- Contract of the toys' Make. -/
import Derived.Test.YtlpkgheggbcidaaDoorRpRun
import Derived.Sort.Walk0
import Derived.Laws.Cover1
set_option linter.unusedVariables false
namespace Go.Proofs.YtlpkgheggbcidaaDoor
open Go.RowKit Go.Mem Go.Rp
def MakePost (w : World) (B : Nat) (r : Option Ty) (e : Ending) (w' : World) : Prop :=
  (match r with
    | none => ∃ k : Int, e = .returned (.tuple #[.nilIface, .int .i64 k]) ∧ k ≠ 0
    | some t => e = .returned (.tuple #[.iface 166 (.pointer (some ⟨w.heap.size, 0, none⟩)), .int .i64 0]) ∧ ToyAt w' B w.heap.size t) ∧ Below w.heap.size w w'
theorem less_a (q : UInt8) (hq : 97 ≤ q.toNat) : Op.bytesLess [q] [97] = false := by
  rw [bytesLess_eq]
  have : ¬ [q] < [97] := by
    intro h
    rw [List.cons_lt_cons_iff] at h
    rcases h with h | ⟨_, h⟩
    · rw [UInt8.lt_iff_toNat_lt] at h
      have e : (97 : UInt8).toNat = 97 := rfl
      omega
    · cases h
  simpa using this
theorem one_at (q : UInt8) (h : 0 < (⟨#[q]⟩ : ByteArray).size) : (⟨#[q]⟩ : ByteArray)[0]'h = q := rfl
theorem make_end (w : World) (B : Nat) (Ai : Option Addr) (ci : Nat) (s : List Int) (hs : ScAt w B Ai ci s) (hB : B ≤ w.heap.size) (sum self : Int) :
    MakePost w B (some ⟨s, 0, sum, self, false, false, ⟨0, 0, [], ⟨0, 0⟩, []⟩⟩) (.returned (.tuple #[.iface 166 (.pointer (some ⟨w.heap.size, 0, none⟩)), .int .i64 0])) (w.alloc (.cells #[.slice Ai s.length ci, .int .i64 0, .int .i64 sum, .int .i64 self, .bool false, .bool false, .int .i64 0, .int .i64 0, .string ⟨#[]⟩, .int .i64 0, .int .i64 0, .string ⟨#[]⟩, .slice none 0 0, .slice none 0 0] 168)) :=
  ⟨⟨rfl, Ai, ci, none, 0, 0, Blk.new w _ [.slice Ai s.length ci, .int .i64 0, .int .i64 sum, .int .i64 self, .bool false, .bool false, .int .i64 0, .int .i64 0, .string ⟨#[]⟩, .int .i64 0, .int .i64 0, .string ⟨#[]⟩, .slice none 0 0, .slice none 0 0], hs.keep (Same.alloc _ _ _), fun h => by cases h⟩, (Below.refl _ _).alloc (Nat.le_refl _) _⟩
set_option maxRecDepth 100000 in
theorem make_one (w : World) (B : Nat) (A : Option Addr) (c : Nat) (tv : List (List Int)) (h : TvAt w B A c tv) (hB : B ≤ w.heap.size) (q : UInt8) (hq : 97 ≤ q.toNat) (SA : Option Addr) (sc : Nat) (v : Vl) (hs : Reads w Any 4 SA 1 (cat vlC [v])) (hsc : 1 ≤ sc) (self : Int) (s : List Int) (hi : tv[q.toNat - 97]? = some s) :
    Calls Tryd.prog 98 #[.slice A tv.length c, .string ⟨#[q]⟩, .slice SA 1 sc, .int .i64 self] w (MakePost w B (some ⟨s, 0, v.nm, self, false, false, ⟨0, 0, [], ⟨0, 0⟩, []⟩⟩)) := by
  have hl := less_a q hq
  obtain ⟨h1, h2, xs, hx, hat⟩ := h
  have hlt := (List.getElem?_eq_some_iff.1 hi).1
  obtain ⟨Ai, ci, hxi, hsc1⟩ := hat _ s hi
  obtain ⟨b, off, rfl, hbB, hc⟩ := hx.2 (by omega)
  obtain ⟨vb, vo, rfl, _, hvc⟩ := hs.2 (by omega)
  have cv := hvc 1 (.int .i64 v.nm) rfl
  have lv := lt_of_cell cv
  clear hvc hs
  have cx := hc _ _ hxi
  obtain ⟨j, hj⟩ : ∃ j, q.toNat - 97 = j := ⟨_, rfl⟩
  rw [hj] at cx hlt hxi
  have hwr : ((q.toNat : Int) - 97) % 256 = (j : Int) := by
    have := q.toNat_lt
    omega
  have hq0 := one_at q
  have lb := lt_of_cell cx
  have HS := Lib.hid hsc1
  obtain ⟨L, hL⟩ : ∃ L, tv.length = L := ⟨_, rfl⟩
  rw [hL] at hlt ⊢
  have hjL : (j : Int) < (L : Int) := by omega
  have hjL2 : ¬ (L : Int) ≤ (j : Int) := by omega
  clear hc hi hxi hat h1 h2 hx hL hsc1 hj
  go_enter Tryd.func98, Tryd.ntmps98
  go_wp2_with (fail)
  go_ret2
  exact make_end w B Ai ci s HS.out hB _ _
set_option maxRecDepth 100000 in
theorem make_nil (w : World) (B : Nat) (A : Option Addr) (c : Nat) (tv : List (List Int)) (h : TvAt w B A c tv) (hB : B ≤ w.heap.size) (q : UInt8) (hq : 97 ≤ q.toNat)  (self : Int) (s : List Int) (hi : tv[q.toNat - 97]? = some s) :
    Calls Tryd.prog 98 #[.slice A tv.length c, .string ⟨#[q]⟩, .slice none 0 0, .int .i64 self] w (MakePost w B (some ⟨s, 0, 0, self, false, false, ⟨0, 0, [], ⟨0, 0⟩, []⟩⟩)) := by
  have hl := less_a q hq
  obtain ⟨h1, h2, xs, hx, hat⟩ := h
  have hlt := (List.getElem?_eq_some_iff.1 hi).1
  obtain ⟨Ai, ci, hxi, hsc1⟩ := hat _ s hi
  obtain ⟨b, off, rfl, hbB, hc⟩ := hx.2 (by omega)
  have cx := hc _ _ hxi
  obtain ⟨j, hj⟩ : ∃ j, q.toNat - 97 = j := ⟨_, rfl⟩
  rw [hj] at cx hlt hxi
  have hwr : ((q.toNat : Int) - 97) % 256 = (j : Int) := by
    have := q.toNat_lt
    omega
  have hq0 := one_at q
  have lb := lt_of_cell cx
  have HS := Lib.hid hsc1
  obtain ⟨L, hL⟩ : ∃ L, tv.length = L := ⟨_, rfl⟩
  rw [hL] at hlt ⊢
  have hjL : (j : Int) < (L : Int) := by omega
  have hjL2 : ¬ (L : Int) ≤ (j : Int) := by omega
  clear hc hi hxi hat h1 h2 hx hL hsc1 hj
  go_enter Tryd.func98, Tryd.ntmps98
  go_wp2_with (fail)
  go_ret2
  exact make_end w B Ai ci s HS.out hB _ _
set_option maxRecDepth 100000 in
theorem make_none (w : World) (B : Nat) (A : Option Addr) (c L : Nat) (q : UInt8) (hq : 97 ≤ q.toNat) (SA : Option Addr) (n sc : Nat) (self : Int) (hi : L ≤ q.toNat - 97) :
    Calls Tryd.prog 98 #[.slice A L c, .string ⟨#[q]⟩, .slice SA n sc, .int .i64 self] w (MakePost w B none) := by
  have hl := less_a q hq
  obtain ⟨j, hj⟩ : ∃ j, q.toNat - 97 = j := ⟨_, rfl⟩
  rw [hj] at hi
  have hwr : ((q.toNat : Int) - 97) % 256 = (j : Int) := by
    have := q.toNat_lt
    omega
  have hq0 := one_at q
  have hjL2 : (L : Int) ≤ (j : Int) := by omega
  clear hj
  go_enter Tryd.func98, Tryd.ntmps98
  go_wp2_with (fail)
  go_ret2
  exact ⟨⟨4, rfl, by decide⟩, Below.refl _ _⟩
theorem makeT_at (tv : List (List Int)) (q : UInt8) (hq : 97 ≤ q.toNat) (st : List Vl) (hst : st.length ≤ 1) (self : Int) :
    makeT tv [q] st self = (tv[q.toNat - 97]?).map fun s => ⟨s, 0, ((st[0]?).map (·.nm)).getD 0, self, false, false, ⟨0, 0, [], ⟨0, 0⟩, []⟩⟩ := by
  unfold makeT
  have h1 : ¬ (q < 97 ∨ 1 < st.length) := by
    rintro (h | h)
    · rw [UInt8.lt_iff_toNat_lt] at h
      have e : (97 : UInt8).toNat = 97 := rfl
      omega
    · omega
  have h2 : (q - 97).toNat = q.toNat - 97 := by
    have e : (97 : UInt8).toNat = 97 := rfl
    rw [UInt8.toNat_sub_of_le q 97 (by rw [UInt8.le_iff_toNat_le]; omega), e]
  simp only [if_neg h1, h2]
theorem make_any (w : World) (B : Nat) (A : Option Addr) (c : Nat) (tv : List (List Int)) (h : TvAt w B A c tv) (hB : B ≤ w.heap.size) (q : UInt8) (hq : 97 ≤ q.toNat) (SA : Option Addr) (n sc : Nat) (st : List Vl) (hn : n = st.length) (hst : st.length ≤ 1) (hs : Reads w Any 4 SA n (cat vlC st)) (hsc : n ≤ sc) (hn0 : n = 0 → SA = none ∧ sc = 0) (self : Int) :
    Calls Tryd.prog 98 #[.slice A tv.length c, .string ⟨#[q]⟩, .slice SA n sc, .int .i64 self] w (MakePost w B (makeT tv [q] st self)) := by
  subst hn
  rw [makeT_at tv q hq st hst]
  cases hi : tv[q.toNat - 97]? with
  | none => exact make_none w B A c tv.length q hq SA st.length sc self (List.getElem?_eq_none_iff.1 hi)
  | some s =>
    match st, hst, hs, hsc, hn0 with
    | [], _, _, _, hn0 =>
      obtain ⟨rfl, rfl⟩ := hn0 rfl
      exact make_nil w B A c tv h hB q hq self s hi
    | [v], _, hs, hsc, _ => exact make_one w B A c tv h hB q hq SA sc v hs hsc self s hi
    | _ :: _ :: _, hst, _, _, _ => simp at hst
end Go.Proofs.YtlpkgheggbcidaaDoor
