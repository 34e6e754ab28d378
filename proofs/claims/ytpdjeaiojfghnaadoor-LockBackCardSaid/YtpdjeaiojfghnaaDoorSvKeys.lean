/- A map that is keyed by names, as the kit's map of the call's own. -/
import Derived.Test.YtpdjeaiojfghnaaDoorSvComplete
import Derived.Maps.Own
import Derived.Sort.KeysCollected
set_option linter.unusedVariables false
namespace Go.Sv
open Go.RowKit Go.Mem
open Go.WideElems (Fit rd rg)
/-- an element's value is not looked at -/
def anyElem : Value → Option (DataW Unit × List MemPlace) := fun _ => some (.nil, [])
theorem strOf_str (n : Nm) : strOf (Lit.string (ByteArray.mk n.toArray).data.toList) = n := by simp [strOf]
theorem MapOf.owns {P : Program} {K : TypeId} (hK : P.underlying K = some .string) {w : World} {b : Nat} {l : List (Nm × Value)} {ok : Nm → Prop} (hok : ∀ n, ok n → n.length ≤ maxLen) (h : MapOf str ok w b l) (hl : l.length ≤ maxLen) :
    ∃ D0 : DataW Unit, w.ownsMap P K anyElem b l.length D0 ∧ Maps.size D0 = l.length ∧ (strKeys D0).Perm (l.map (·.1)) := by
  obtain ⟨es, clock, hb, hs, he, hk⟩ := h
  have hlen : es.size = l.length := by
    have := congrArg List.length he
    simpa using this
  have key : ∀ x ∈ es.toList, ∃ n, x.key = str n ∧ n.length ≤ maxLen := by
    intro x hx
    have h1 : (x.key, x.val) ∈ es.toList.map (fun e => (e.key, e.val)) := List.mem_map.2 ⟨x, hx, rfl⟩
    rw [he] at h1
    obtain ⟨p, hp, e⟩ := List.mem_map.1 h1
    injection e with e1 e2
    exact ⟨p.1, e1.symm, hok _ (hk p hp)⟩
  have hrd : ∀ x ∈ es.toList, ∀ n, x.key = str n → n.length ≤ maxLen → rd P K anyElem x = some (.string n, .nil) := by
    intro x hx n e hn
    unfold rd
    rw [e]
    rw [Go.WideMaps.keyOf_string_mk hK (by simpa [ByteArray.size] using hn)]
    simp [anyElem]
  have hF : Fit P K anyElem es clock := ⟨by omega, hs, fun x hx => by
    obtain ⟨n, e, hn⟩ := key x hx
    exact ⟨_, hrd x hx n e hn⟩⟩
  refine ⟨_, ⟨es, clock, hb, hF, by omega, rfl⟩, ?_, ?_⟩
  · rw [Maps.size_eq, length_sorted, List.length_map, Array.length_toList, hlen]
  · have hp := (Go.WideShapes.sorted_perm (es.toList.map (rg P K anyElem))).map (fun p => strOf p.1)
    refine hp.trans ?_
    have e1 : (es.toList.map (rg P K anyElem)).map (fun p => strOf p.1) = l.map (·.1) := by
      have e2 : es.toList.map (·.key) = l.map (fun p => str p.1) := by
        have := congrArg (List.map (·.1)) he
        simpa [List.map_map, Function.comp_def] using this
      have e3 : (es.toList.map (rg P K anyElem)).map (fun p => strOf p.1) = (es.toList.map (·.key)).map (fun v => match v with | .string s => s.data.toList | _ => []) := by
        rw [List.map_map, List.map_map]
        apply List.map_congr_left
        intro x hx
        obtain ⟨n, e, hn⟩ := key x hx
        simp only [Function.comp, rg, hrd x hx n e hn, Option.getD_some, e, strOf]
      rw [e3, e2, List.map_map]
      apply List.map_congr_left
      intro p _
      simp
    rw [e1]
end Go.Sv
