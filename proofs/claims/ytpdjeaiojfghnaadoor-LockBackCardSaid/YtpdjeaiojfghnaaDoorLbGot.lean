/- A register and wants in memory; what Best selects may be. -/
import Derived.Test.YtpdjeaiojfghnaaDoorLkCheck
set_option linter.unusedVariables false
namespace Go.Proofs.YtpdjeaiojfghnaaDoor
open Go.RowKit Go.Mem Go.Sv Go.Maps
/-- a register and wants -/
structure Got (w : World) (A : Option Addr) (c : Nat) (ms : List Md) (B : Option Addr) (d : Nat) (root : List Us) : Prop where
  md : MdsAt w Any A ms.length c ms
  rt : HoldsU w root B d
  ok : RegOk 20 ms
  r3 : root.length ≤ 3
  ae : ∀ u ∈ root, UsAE u
section
variable {w w' : World} {A B : Option Addr} {c d : Nat} {ms : List Md} {root : List Us}
theorem Got.below (h : Got w A c ms B d root) (hb : Below w.heap.size w w') : Got w' A c ms B d root :=
  ⟨h.md.keep (Same.any hb), ⟨h.rt.1, h.rt.2.1, h.rt.2.2.keep (Same.any hb)⟩, h.ok, h.r3, h.ae⟩
theorem RegRow.mds {base : Nat} {n : Nat} (h : RegRow w base (.slice A n c) ms) : MdsAt w Any A n c ms := by
  obtain ⟨vss, e1, e2, e3, e4, e5⟩ := OwnList.reads MdCells.stable (by omega) h
  exact ⟨vss, e1, e2, e3, e4.imp (by omega) fun _ _ _ => trivial, e5.imp fun x y hxy => MdCells.stable.imp hxy fun _ _ _ => trivial⟩
theorem Got.rok (h : Got w A c ms B d root) : ∀ u ∈ root, UsOk u := fun u hu => (h.ae u hu).ok
theorem Got.best (h : Got w A c ms B d root) {A2 : Option Addr} {c2 : Nat} {first : List Pk} (hf : Reads w Any 2 A2 first.length (pks first)) (hl : first.length ≤ 1000) :
    Calls Tryd.prog 4 #[.slice A ms.length c, .slice B root.length d, .slice A2 first.length c2] w (BestPost w (bestF ms root first)) :=
  best_any w A ms.length c ms B root.length d root A2 first.length c2 first h.md h.ok.ms h.rt.2.2 rfl h.rt.1 h.rt.2.1 (by have := h.r3; omega) h.rok hf rfl hl
theorem best_len {first x : List Pk} (hm : MsOk ms) (h : bestF ms root first = some x) : x.length ≤ 30 := by
  obtain ⟨r, _, rfl, _, hT⟩ := best_some h
  rw [picks_len]
  have := nodup_len hT.nd hT.sub
  have := hm.ln
  omega
end
theorem best_pkok {ms : List Md} {root : List Us} {first x : List Pk} (h : RegOk 20 ms) (hb : bestF ms root first = some x) : PkOk x ∧ ∀ p ∈ x, AE p.1 := by
  have hl := best_len h.ms hb
  obtain ⟨r, _, rfl, hw, hT⟩ := best_some hb
  have key : ∀ p ∈ picksF r, ∃ m ∈ ms, p = (m.name, m.ver) := fun p hp => by
    obtain ⟨m, h1, h2⟩ := (mem_picks hT.nd).1 hp
    exact ⟨m, hT.sub m h1, h2⟩
  have ae : ∀ p ∈ picksF r, AE p.1 := fun p hp => by
    obtain ⟨m, h1, rfl⟩ := key p hp
    obtain ⟨k, h2, h3, _⟩ := h.ka m h1
    have := chr_ae (k / 4) (by omega)
    rw [← h3] at this
    exact this
  refine ⟨⟨hl, fun p hp => (ae p hp).letter, fun p hp => ?_, picks_asc hT.nd⟩, ae⟩
  obtain ⟨m, h1, rfl⟩ := key p hp
  obtain ⟨k, h2, _, h3⟩ := h.ka m h1
  simp only
  omega
end Go.Proofs.YtpdjeaiojfghnaaDoor
