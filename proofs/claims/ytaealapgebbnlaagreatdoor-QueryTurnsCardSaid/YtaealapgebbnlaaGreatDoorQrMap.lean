/- Names as keys of maps; sets of names, and what their method sorted gives. -/
import Derived.Test.YtaealapgebbnlaaGreatDoorMap
import Derived.Test.YtaealapgebbnlaaGreatDoorQrMem
import Derived.Test.YtaealapgebbnlaaGreatDoorQrSorted
import Derived.Test.YtaealapgebbnlaaGreatDoorGrown
import Derived.Maps.Own
import Derived.Sort.KeysCollected
set_option linter.unusedVariables false
namespace Go.Md
open Go.RowKit Go.Mem
open Go.WideElems (Fit rd rg)
/-- an element's value is not looked at -/
def anyElem : Value → Option (DataW Unit × List MemPlace) := fun _ => some (.nil, [])
theorem strOf_str (n : Bs) : strOf (Lit.string (ByteArray.mk n.toArray).data.toList) = n := by simp [strOf]
theorem mapOwns {P : Program} {K : TypeId} (hK : P.underlying K = some .string) {w : World} {b : Nat} {l : List (Bs × Value)} {ok : Bs → Prop} (hok : ∀ n, ok n → n.length ≤ maxLen) (h : MapOf bst ok w b l) (hl : l.length ≤ maxLen) :
    ∃ D0 : DataW Unit, w.ownsMap P K anyElem b l.length D0 ∧ Maps.size D0 = l.length ∧ (strKeys D0).Perm (l.map (·.1)) := by
  obtain ⟨es, clock, hb, hs, he, hk⟩ := h
  have hlen : es.size = l.length := by
    have := congrArg List.length he
    simpa using this
  have key : ∀ x ∈ es.toList, ∃ n, x.key = bst n ∧ n.length ≤ maxLen := by
    intro x hx
    have h1 : (x.key, x.val) ∈ es.toList.map (fun e => (e.key, e.val)) := List.mem_map.2 ⟨x, hx, rfl⟩
    rw [he] at h1
    obtain ⟨p, hp, e⟩ := List.mem_map.1 h1
    injection e with e1 e2
    exact ⟨p.1, e1.symm, hok _ (hk p hp)⟩
  have hrd : ∀ x ∈ es.toList, ∀ n, x.key = bst n → n.length ≤ maxLen → rd P K anyElem x = some (.string n, .nil) := by
    intro x hx n e hn
    unfold rd
    rw [e]
    rw [Go.WideMaps.keyOf_string_mk hK (by simpa [ByteArray.size] using hn)]
    simp [anyElem]
  have hF : Fit P K anyElem es clock := ⟨by omega, hs, fun x hx => by
    obtain ⟨n, e, hn⟩ := key x hx
    exact ⟨_, hrd x hx n e hn⟩⟩
  refine ⟨_, ⟨es, clock, hb, hF, by omega, rfl⟩, ?_, ?_⟩
  · rw [Maps.size_eq, length_sorted, List.length_map, Array.length_toList, hlen]
  · have hp := (Go.WideShapes.sorted_perm (es.toList.map (rg P K anyElem))).map (fun p => strOf p.1)
    refine hp.trans ?_
    have e1 : (es.toList.map (rg P K anyElem)).map (fun p => strOf p.1) = l.map (·.1) := by
      have e2 : es.toList.map (·.key) = l.map (fun p => bst p.1) := by
        have := congrArg (List.map (·.1)) he
        simpa [List.map_map, Function.comp_def] using this
      have e3 : (es.toList.map (rg P K anyElem)).map (fun p => strOf p.1) = (es.toList.map (·.key)).map (fun v => match v with | .string s => s.data.toList | _ => []) := by
        rw [List.map_map, List.map_map]
        apply List.map_congr_left
        intro x hx
        obtain ⟨n, e, hn⟩ := key x hx
        simp only [Function.comp, rg, hrd x hx n e hn, Option.getD_some, e, strOf]
      rw [e3, e2, List.map_map]
      apply List.map_congr_left
      intro p _
      simp
    rw [e1]
/-- a name's bytes are few -/
def okB (n : Bs) : Prop := n.length ≤ 65536
abbrev leB (x y : Bs) : Bool := decide (x ≤ y)
abbrev srt (l : List Bs) : List Bs := l.mergeSort leB
/-- the set in block b -/
def SetAt (w : World) (b : Nat) (l : List Bs) : Prop := MapOf bst okB w b (l.map fun s => (s, Value.bool true))
end Go.Md
namespace Go.Proofs.YtaealapgebbnlaaGreatDoor
open Go.RowKit Go.Mem Go.Md Go.Maps
theorem enc_B : Enc Tryz.prog 9 bst okB where
  keyed := string_keyed Tryz.underlying9
  inj := fun a b h => by
    injection h with h
    injection h with h
    have := congrArg Array.toList h
    simpa using this
  key := fun a h => ⟨_, Go.WideMaps.keyOf_string_mk Tryz.underlying9 (by
    unfold okB at h
    have : (ByteArray.mk a.toArray).size = a.length := by simp [ByteArray.size]
    rw [this]
    unfold maxLen
    omega)⟩
theorem keysC (mb : Option Nat) (W : World) : Calls Tryz.prog 32 #[.map mb] W fun e w' => e = .returned (.func (.func 53) #[] #[.pointer (some ⟨W.heap.size, 0, none⟩)]) ∧ w' = W.alloc (.cells #[.map mb] 63) :=
  callsIn_wide.1 (Tryz.maps_Keys_Qr mb W)
theorem sortedC (b : Nat) (l : List Bs) (w : World) (h : SetAt w b l) (hl : l.length ≤ 1000) :
    Calls Tryz.prog 31 #[.func (.func 53) #[] #[.pointer (some ⟨w.heap.size, 0, none⟩)]] (w.alloc (.cells #[.map (some b)] 63)) fun e w' =>
      ∃ A c, e = .returned (.slice A l.length c) ∧ l.length ≤ c ∧ c ≤ maxLen ∧ Reads w' (fun b => w.heap.size ≤ b) 1 A l.length ((srt l).map bst) ∧ Below (w.alloc (.cells #[.map (some b)] 63)).heap.size (w.alloc (.cells #[.map (some b)] 63)) w' := by
  obtain ⟨D0, h1, h2, h3⟩ := mapOwns Tryz.underlying9 (fun n hn => by unfold okB at hn; unfold maxLen; omega) h (by rw [List.length_map]; unfold maxLen; omega)
  rw [List.length_map] at h2
  refine (callsIn_wide.1 (Tryz.slices_Sorted_keys_Qr b _ D0 _ w h1 (by rw [h2]; unfold maxLen; omega) (by rw [h2]; omega))).mono ?_
  rintro e w' ⟨v, ss, rfl, hS, hrow, hnil, hb⟩
  have hm : (l.map fun s => (s, Value.bool true)).map (·.1) = l := by simp [List.map_map, Function.comp_def]
  rw [hm] at h3
  have hp : ss.Perm l := hS.trans h3
  have e1 : ss.mergeSort (fun x y => decide (x ≤ y)) = srt l := mergeSort_of_perm hp
  have e2 : ss.length = l.length := hp.length_eq
  rw [e1, e2] at hrow
  obtain ⟨A, c, rfl, h4, h5⟩ := own_form hrow
  obtain ⟨q1, q2, q3⟩ := own_reads (by omega) hrow
  exact ⟨A, c, rfl, h4, h5, q3.imp (by omega) fun b hb _ => by simp at hb; omega, hb⟩
set_option maxRecDepth 100000 in
theorem sorted_any (b : Nat) (l : List Bs) (w : World) (h : SetAt w b l) (hl : l.length ≤ 1000) :
    Calls Tryz.prog 15 #[.map (some b)] w fun e w' => ∃ A c, e = .returned (.slice A l.length c) ∧ l.length ≤ c ∧ c ≤ maxLen ∧ Reads w' (fun b => w.heap.size ≤ b) 1 A l.length ((srt l).map bst) ∧ Below w.heap.size w w' := by
  have CS := Lib.hid (sortedC b l w h hl)
  clear h
  go_enter Tryz.func15, Tryz.ntmps15
  go_wp2_with (fail)
  refine (keysC _ _).mono ?_
  rintro e w1 ⟨rfl, rfl⟩
  go_wp2_with (fail)
  refine CS.out.mono ?_
  rintro e w2 ⟨A, c, rfl, h1, h2, hr, hb⟩
  have FIN := Lib.hid (And.intro (And.intro h1 h2) (And.intro hr hb))
  clear h1 h2 hr hb
  go_wp2_with (fail)
  go_ret
  have hb0 : Below w.heap.size w (w.alloc (.cells #[.map (some b)] 63)) := (Below.refl _ _).alloc (Nat.le_refl _) _
  exact ⟨A, c, rfl, FIN.out.1.1, FIN.out.1.2, FIN.out.2.1, hb0.trans (FIN.out.2.2.mono hb0.size)⟩
end Go.Proofs.YtaealapgebbnlaaGreatDoor
