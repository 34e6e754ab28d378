/-
  No cell of these rows narrows 'for every input' (looked for: loops, veiled, ifaces, maps, wideKeys, modest, calm, conditions, laid).
  DERIVED. THE GIVEN ROWS OF THIS SEAT. 11 by the template 'for every input the law returns true; each argument reads behind the call as it read before'; 0 by the template 'total and deterministic' (their statements: YtgcpclbkjplipaaTotals.lean).
  GIVEN WITH THE SEED: the statements are not yours to turn. If you find one false, say at which input.
  Laid BY PROGRAM, IN A SANDBOX (cutbox-rows.mjs): the forced cells as the released guide's own fill.sh prints them over the translation ced16ba3991cde19… (all of the seat's roots in one cut). By AI agents, Wed Nov 11 2026. No macro, syntax, notation, axiom, sorry.
-/
import Derived.Test.YtgcpclbkjplipaaChecked
import GoSem.Claim
import GoSem.ClaimJoined
import GoSem.ClaimMapViews
import Derived.JoinedTies
import Derived.KernelRfl
namespace Go.Proofs.Ytgcpclbkjplipaa
/- THE CELL 'sum', in the pinned program and in every row, IS THE sha256 OF THE DUMP (.gsa) THAT YtgcpclbkjplipaaProg.lean LOADS. Nothing in Lean hashes anything: it is a label: what it is worth is what the hold of that sum in a sandbox is worth. -/
noncomputable def Try.pinned : Pinned := { name := "ytgcpclbkjplipaa", sum := "ced16ba3991cde190a26e0151d758c4d0f96f0efe3b1937888733807bb731043", checked := Try.checked }
namespace Rows
def none {H : Type} : Left H := { results := [], args := [] }

/-- 'roadkeep5.ChunkTorn': WHATEVER THE INPUT: true; the input reads as it did. -/
def chunkTornSpec : ChangeSpec := { name := "chunkTorn", fn := fun _ => fun
  | [d1, d2] => { results := [.lit (.bool true)], args := [d1, d2] }
  | _ => none }
def chunkTornRow : OpenClaim := { program := "ytgcpclbkjplipaa", sum := "ced16ba3991cde190a26e0151d758c4d0f96f0efe3b1937888733807bb731043", func := "roadstead/roadkeep5.ChunkTorn", spec := "chunkTorn", apart := false }
def ChunkTornSaid : Prop := chunkTornRow.holds Try.pinned (OpenSpec.ofChange chunkTornSpec)

/-- ITS FALSE NEIGHBOUR: 'it returns false'. Refute it at one input. -/
def chunkTornWrong : ChangeSpec := { name := "chunkTorn", fn := fun _ => fun
  | [d1, d2] => { results := [.lit (.bool false)], args := [d1, d2] }
  | _ => none }
def ChunkTornWrongFalsely : Prop := chunkTornRow.holds Try.pinned (OpenSpec.ofChange chunkTornWrong)

/-- 'roadkeep5.ValueOne': WHATEVER THE INPUT: true; the input reads as it did. -/
def valueOneSpec : ChangeSpec := { name := "valueOne", fn := fun _ => fun
  | [d1, d2] => { results := [.lit (.bool true)], args := [d1, d2] }
  | _ => none }
def valueOneRow : OpenClaim := { program := "ytgcpclbkjplipaa", sum := "ced16ba3991cde190a26e0151d758c4d0f96f0efe3b1937888733807bb731043", func := "roadstead/roadkeep5.ValueOne", spec := "valueOne", unfollowed := true, recurses := true, apart := false }
def ValueOneSaid : Prop := valueOneRow.holds Try.pinned (OpenSpec.ofChange valueOneSpec)

/-- ITS FALSE NEIGHBOUR: 'it returns false'. Refute it at one input. -/
def valueOneWrong : ChangeSpec := { name := "valueOne", fn := fun _ => fun
  | [d1, d2] => { results := [.lit (.bool false)], args := [d1, d2] }
  | _ => none }
def ValueOneWrongFalsely : Prop := valueOneRow.holds Try.pinned (OpenSpec.ofChange valueOneWrong)

/-- 'roadkeep5.ChunkShares': WHATEVER THE INPUT: true; the input reads as it did. -/
def chunkSharesSpec : ChangeSpec := { name := "chunkShares", fn := fun _ => fun
  | [d1, d2] => { results := [.lit (.bool true)], args := [d1, d2] }
  | _ => none }
def chunkSharesRow : OpenClaim := { program := "ytgcpclbkjplipaa", sum := "ced16ba3991cde190a26e0151d758c4d0f96f0efe3b1937888733807bb731043", func := "roadstead/roadkeep5.ChunkShares", spec := "chunkShares", apart := false }
def ChunkSharesSaid : Prop := chunkSharesRow.holds Try.pinned (OpenSpec.ofChange chunkSharesSpec)

/-- ITS FALSE NEIGHBOUR: 'it returns false'. Refute it at one input. -/
def chunkSharesWrong : ChangeSpec := { name := "chunkShares", fn := fun _ => fun
  | [d1, d2] => { results := [.lit (.bool false)], args := [d1, d2] }
  | _ => none }
def ChunkSharesWrongFalsely : Prop := chunkSharesRow.holds Try.pinned (OpenSpec.ofChange chunkSharesWrong)

/-- 'roadkeep5.ChunkJoins': WHATEVER THE INPUT: true; the input reads as it did. -/
def chunkJoinsSpec : ChangeSpec := { name := "chunkJoins", fn := fun _ => fun
  | [d] => { results := [.lit (.bool true)], args := [d] }
  | _ => none }
def chunkJoinsRow : OpenClaim := { program := "ytgcpclbkjplipaa", sum := "ced16ba3991cde190a26e0151d758c4d0f96f0efe3b1937888733807bb731043", func := "roadstead/roadkeep5.ChunkJoins", spec := "chunkJoins", inPlace := ["internal/bytealg.IndexByteString", "internal/bytealg.IndexString"], named := ["internal/bytealg.MaxLen"], apart := false }
def ChunkJoinsSaid : Prop := chunkJoinsRow.holds Try.pinned (OpenSpec.ofChange chunkJoinsSpec)

/-- ITS FALSE NEIGHBOUR: 'it returns false'. Refute it at one input. -/
def chunkJoinsWrong : ChangeSpec := { name := "chunkJoins", fn := fun _ => fun
  | [d] => { results := [.lit (.bool false)], args := [d] }
  | _ => none }
def ChunkJoinsWrongFalsely : Prop := chunkJoinsRow.holds Try.pinned (OpenSpec.ofChange chunkJoinsWrong)

/-- 'roadkeep5.ValueNumbers': WHATEVER THE INPUT: true; the input reads as it did. -/
def valueNumbersSpec : ChangeSpec := { name := "valueNumbers", fn := fun _ => fun
  | [d1, d2] => { results := [.lit (.bool true)], args := [d1, d2] }
  | _ => none }
def valueNumbersRow : OpenClaim := { program := "ytgcpclbkjplipaa", sum := "ced16ba3991cde190a26e0151d758c4d0f96f0efe3b1937888733807bb731043", func := "roadstead/roadkeep5.ValueNumbers", spec := "valueNumbers", unfollowed := true, recurses := true, apart := false }
def ValueNumbersSaid : Prop := valueNumbersRow.holds Try.pinned (OpenSpec.ofChange valueNumbersSpec)

/-- ITS FALSE NEIGHBOUR: 'it returns false'. Refute it at one input. -/
def valueNumbersWrong : ChangeSpec := { name := "valueNumbers", fn := fun _ => fun
  | [d1, d2] => { results := [.lit (.bool false)], args := [d1, d2] }
  | _ => none }
def ValueNumbersWrongFalsely : Prop := valueNumbersRow.holds Try.pinned (OpenSpec.ofChange valueNumbersWrong)

/-- 'roadkeep5.ValueTorn': WHATEVER THE INPUT: true; the input reads as it did. -/
def valueTornSpec : ChangeSpec := { name := "valueTorn", fn := fun _ => fun
  | [d1, d2, d3, d4, d5] => { results := [.lit (.bool true)], args := [d1, d2, d3, d4, d5] }
  | _ => none }
def valueTornRow : OpenClaim := { program := "ytgcpclbkjplipaa", sum := "ced16ba3991cde190a26e0151d758c4d0f96f0efe3b1937888733807bb731043", func := "roadstead/roadkeep5.ValueTorn", spec := "valueTorn", unfollowed := true, recurses := true, apart := false }
def ValueTornSaid : Prop := valueTornRow.holds Try.pinned (OpenSpec.ofChange valueTornSpec)

/-- ITS FALSE NEIGHBOUR: 'it returns false'. Refute it at one input. -/
def valueTornWrong : ChangeSpec := { name := "valueTorn", fn := fun _ => fun
  | [d1, d2, d3, d4, d5] => { results := [.lit (.bool false)], args := [d1, d2, d3, d4, d5] }
  | _ => none }
def ValueTornWrongFalsely : Prop := valueTornRow.holds Try.pinned (OpenSpec.ofChange valueTornWrong)

/-- 'roadkeep5.ValueBack': WHATEVER THE INPUT: true; the input reads as it did. -/
def valueBackSpec : ChangeSpec := { name := "valueBack", fn := fun _ => fun
  | [d] => { results := [.lit (.bool true)], args := [d] }
  | _ => none }
def valueBackRow : OpenClaim := { program := "ytgcpclbkjplipaa", sum := "ced16ba3991cde190a26e0151d758c4d0f96f0efe3b1937888733807bb731043", func := "roadstead/roadkeep5.ValueBack", spec := "valueBack", unfollowed := true, recurses := true, apart := false }
def ValueBackSaid : Prop := valueBackRow.holds Try.pinned (OpenSpec.ofChange valueBackSpec)

/-- ITS FALSE NEIGHBOUR: 'it returns false'. Refute it at one input. -/
def valueBackWrong : ChangeSpec := { name := "valueBack", fn := fun _ => fun
  | [d] => { results := [.lit (.bool false)], args := [d] }
  | _ => none }
def ValueBackWrongFalsely : Prop := valueBackRow.holds Try.pinned (OpenSpec.ofChange valueBackWrong)

/-- 'roadkeep5.ValueMail': WHATEVER THE INPUT: true; the input reads as it did. -/
def valueMailSpec : ChangeSpec := { name := "valueMail", fn := fun _ => fun
  | [d1, d2] => { results := [.lit (.bool true)], args := [d1, d2] }
  | _ => none }
def valueMailRow : OpenClaim := { program := "ytgcpclbkjplipaa", sum := "ced16ba3991cde190a26e0151d758c4d0f96f0efe3b1937888733807bb731043", func := "roadstead/roadkeep5.ValueMail", spec := "valueMail", unfollowed := true, recurses := true, apart := false }
def ValueMailSaid : Prop := valueMailRow.holds Try.pinned (OpenSpec.ofChange valueMailSpec)

/-- ITS FALSE NEIGHBOUR: 'it returns false'. Refute it at one input. -/
def valueMailWrong : ChangeSpec := { name := "valueMail", fn := fun _ => fun
  | [d1, d2] => { results := [.lit (.bool false)], args := [d1, d2] }
  | _ => none }
def ValueMailWrongFalsely : Prop := valueMailRow.holds Try.pinned (OpenSpec.ofChange valueMailWrong)

/-- 'roadkeep5.StoreBack': WHATEVER THE INPUT: true; the input reads as it did. -/
def storeBackSpec : ChangeSpec := { name := "storeBack", fn := fun _ => fun
  | [d1, d2, d3] => { results := [.lit (.bool true)], args := [d1, d2, d3] }
  | _ => none }
def storeBackRow : OpenClaim := { program := "ytgcpclbkjplipaa", sum := "ced16ba3991cde190a26e0151d758c4d0f96f0efe3b1937888733807bb731043", func := "roadstead/roadkeep5.StoreBack", spec := "storeBack", unfollowed := true, recurses := true, apart := false }
def StoreBackSaid : Prop := storeBackRow.holds Try.pinned (OpenSpec.ofChange storeBackSpec)

/-- ITS FALSE NEIGHBOUR: 'it returns false'. Refute it at one input. -/
def storeBackWrong : ChangeSpec := { name := "storeBack", fn := fun _ => fun
  | [d1, d2, d3] => { results := [.lit (.bool false)], args := [d1, d2, d3] }
  | _ => none }
def StoreBackWrongFalsely : Prop := storeBackRow.holds Try.pinned (OpenSpec.ofChange storeBackWrong)

/-- 'roadkeep5.StoreTorn': WHATEVER THE INPUT: true; the input reads as it did. -/
def storeTornSpec : ChangeSpec := { name := "storeTorn", fn := fun _ => fun
  | [d1, d2, d3] => { results := [.lit (.bool true)], args := [d1, d2, d3] }
  | _ => none }
def storeTornRow : OpenClaim := { program := "ytgcpclbkjplipaa", sum := "ced16ba3991cde190a26e0151d758c4d0f96f0efe3b1937888733807bb731043", func := "roadstead/roadkeep5.StoreTorn", spec := "storeTorn", unfollowed := true, recurses := true, apart := false }
def StoreTornSaid : Prop := storeTornRow.holds Try.pinned (OpenSpec.ofChange storeTornSpec)

/-- ITS FALSE NEIGHBOUR: 'it returns false'. Refute it at one input. -/
def storeTornWrong : ChangeSpec := { name := "storeTorn", fn := fun _ => fun
  | [d1, d2, d3] => { results := [.lit (.bool false)], args := [d1, d2, d3] }
  | _ => none }
def StoreTornWrongFalsely : Prop := storeTornRow.holds Try.pinned (OpenSpec.ofChange storeTornWrong)

/-- 'roadkeep5.StoreKeeps': WHATEVER THE INPUT: true; the input reads as it did. -/
def storeKeepsSpec : ChangeSpec := { name := "storeKeeps", fn := fun _ => fun
  | [d1, d2, d3] => { results := [.lit (.bool true)], args := [d1, d2, d3] }
  | _ => none }
def storeKeepsRow : OpenClaim := { program := "ytgcpclbkjplipaa", sum := "ced16ba3991cde190a26e0151d758c4d0f96f0efe3b1937888733807bb731043", func := "roadstead/roadkeep5.StoreKeeps", spec := "storeKeeps", unfollowed := true, recurses := true, apart := false }
def StoreKeepsSaid : Prop := storeKeepsRow.holds Try.pinned (OpenSpec.ofChange storeKeepsSpec)

/-- ITS FALSE NEIGHBOUR: 'it returns false'. Refute it at one input. -/
def storeKeepsWrong : ChangeSpec := { name := "storeKeeps", fn := fun _ => fun
  | [d1, d2, d3] => { results := [.lit (.bool false)], args := [d1, d2, d3] }
  | _ => none }
def StoreKeepsWrongFalsely : Prop := storeKeepsRow.holds Try.pinned (OpenSpec.ofChange storeKeepsWrong)

/- THE SECOND FORM. 'bulk': how many values and letters a reading holds, each counted each time it is reached (what is shared counts as often as it is met; a slice's spare places count too). A statement '..UptoSaid' is the law's where the arguments, and the package variables that the reading takes, are together of bulk at most 1048576: NARROWER than '..Said'. Prove '..Said' where nothing that the law and all that it calls make is longer than what came in: it says more and counts as full. Else prove '..UptoSaid'. A law counts once. -/
mutual
def uptoBulk {H : Type} : DataW H → Nat
  | .lit (.string bytes) => bytes.length + 1
  | .lit _ => 1
  | .nil => 1
  | .ptr d => uptoBulk d + 1
  | .slice elems spare => uptoBulkAll elems + uptoBulkAll spare + 1
  | .agg parts => uptoBulkAll parts + 1
  | .iface _ d => uptoBulk d + 1
  | .map entries => uptoBulkEntries entries + 1
  | .held _ => 1
def uptoBulkAll {H : Type} : List (DataW H) → Nat
  | [] => 0
  | d :: r => uptoBulk d + uptoBulkAll r
def uptoBulkEntries {H : Type} : List (Lit × DataW H) → Nat
  | [] => 0
  | x :: r => uptoBulkEntry x + uptoBulkEntries r
def uptoBulkEntry {H : Type} : Lit × DataW H → Nat
  | (.string bytes, d) => bytes.length + uptoBulk d + 1
  | (_, d) => uptoBulk d + 1
 end
def uptoSmall : (H : Type) → List (DataW H) → Bool := fun _ ds => decide (uptoBulkAll ds ≤ 1048576)
def OpenSpec.upto (s : _root_.Go.ChangeSpec) : _root_.Go.OpenSpec := { _root_.Go.OpenSpec.ofChange s with cond := some uptoSmall }

/-- 'roadkeep5.ChunkTorn', WHERE WHAT IT READS IS OF BULK AT MOST 1048576: true; the input reads as it did. -/
def chunkTornUptoRow : OpenClaim := { program := "ytgcpclbkjplipaa", sum := "ced16ba3991cde190a26e0151d758c4d0f96f0efe3b1937888733807bb731043", func := "roadstead/roadkeep5.ChunkTorn", spec := "chunkTorn", apart := false, narrowed := true }
def ChunkTornUptoSaid : Prop := chunkTornUptoRow.holds Try.pinned (OpenSpec.upto chunkTornSpec)

/-- 'roadkeep5.ValueOne', WHERE WHAT IT READS IS OF BULK AT MOST 1048576: true; the input reads as it did. -/
def valueOneUptoRow : OpenClaim := { program := "ytgcpclbkjplipaa", sum := "ced16ba3991cde190a26e0151d758c4d0f96f0efe3b1937888733807bb731043", func := "roadstead/roadkeep5.ValueOne", spec := "valueOne", unfollowed := true, recurses := true, apart := false, narrowed := true }
def ValueOneUptoSaid : Prop := valueOneUptoRow.holds Try.pinned (OpenSpec.upto valueOneSpec)

/-- 'roadkeep5.ChunkShares', WHERE WHAT IT READS IS OF BULK AT MOST 1048576: true; the input reads as it did. -/
def chunkSharesUptoRow : OpenClaim := { program := "ytgcpclbkjplipaa", sum := "ced16ba3991cde190a26e0151d758c4d0f96f0efe3b1937888733807bb731043", func := "roadstead/roadkeep5.ChunkShares", spec := "chunkShares", apart := false, narrowed := true }
def ChunkSharesUptoSaid : Prop := chunkSharesUptoRow.holds Try.pinned (OpenSpec.upto chunkSharesSpec)

/-- 'roadkeep5.ChunkJoins', WHERE WHAT IT READS IS OF BULK AT MOST 1048576: true; the input reads as it did. -/
def chunkJoinsUptoRow : OpenClaim := { program := "ytgcpclbkjplipaa", sum := "ced16ba3991cde190a26e0151d758c4d0f96f0efe3b1937888733807bb731043", func := "roadstead/roadkeep5.ChunkJoins", spec := "chunkJoins", inPlace := ["internal/bytealg.IndexByteString", "internal/bytealg.IndexString"], named := ["internal/bytealg.MaxLen"], apart := false, narrowed := true }
def ChunkJoinsUptoSaid : Prop := chunkJoinsUptoRow.holds Try.pinned (OpenSpec.upto chunkJoinsSpec)

/-- 'roadkeep5.ValueNumbers', WHERE WHAT IT READS IS OF BULK AT MOST 1048576: true; the input reads as it did. -/
def valueNumbersUptoRow : OpenClaim := { program := "ytgcpclbkjplipaa", sum := "ced16ba3991cde190a26e0151d758c4d0f96f0efe3b1937888733807bb731043", func := "roadstead/roadkeep5.ValueNumbers", spec := "valueNumbers", unfollowed := true, recurses := true, apart := false, narrowed := true }
def ValueNumbersUptoSaid : Prop := valueNumbersUptoRow.holds Try.pinned (OpenSpec.upto valueNumbersSpec)

/-- 'roadkeep5.ValueTorn', WHERE WHAT IT READS IS OF BULK AT MOST 1048576: true; the input reads as it did. -/
def valueTornUptoRow : OpenClaim := { program := "ytgcpclbkjplipaa", sum := "ced16ba3991cde190a26e0151d758c4d0f96f0efe3b1937888733807bb731043", func := "roadstead/roadkeep5.ValueTorn", spec := "valueTorn", unfollowed := true, recurses := true, apart := false, narrowed := true }
def ValueTornUptoSaid : Prop := valueTornUptoRow.holds Try.pinned (OpenSpec.upto valueTornSpec)

/-- 'roadkeep5.ValueBack', WHERE WHAT IT READS IS OF BULK AT MOST 1048576: true; the input reads as it did. -/
def valueBackUptoRow : OpenClaim := { program := "ytgcpclbkjplipaa", sum := "ced16ba3991cde190a26e0151d758c4d0f96f0efe3b1937888733807bb731043", func := "roadstead/roadkeep5.ValueBack", spec := "valueBack", unfollowed := true, recurses := true, apart := false, narrowed := true }
def ValueBackUptoSaid : Prop := valueBackUptoRow.holds Try.pinned (OpenSpec.upto valueBackSpec)

/-- 'roadkeep5.ValueMail', WHERE WHAT IT READS IS OF BULK AT MOST 1048576: true; the input reads as it did. -/
def valueMailUptoRow : OpenClaim := { program := "ytgcpclbkjplipaa", sum := "ced16ba3991cde190a26e0151d758c4d0f96f0efe3b1937888733807bb731043", func := "roadstead/roadkeep5.ValueMail", spec := "valueMail", unfollowed := true, recurses := true, apart := false, narrowed := true }
def ValueMailUptoSaid : Prop := valueMailUptoRow.holds Try.pinned (OpenSpec.upto valueMailSpec)

/-- 'roadkeep5.StoreBack', WHERE WHAT IT READS IS OF BULK AT MOST 1048576: true; the input reads as it did. -/
def storeBackUptoRow : OpenClaim := { program := "ytgcpclbkjplipaa", sum := "ced16ba3991cde190a26e0151d758c4d0f96f0efe3b1937888733807bb731043", func := "roadstead/roadkeep5.StoreBack", spec := "storeBack", unfollowed := true, recurses := true, apart := false, narrowed := true }
def StoreBackUptoSaid : Prop := storeBackUptoRow.holds Try.pinned (OpenSpec.upto storeBackSpec)

/-- 'roadkeep5.StoreTorn', WHERE WHAT IT READS IS OF BULK AT MOST 1048576: true; the input reads as it did. -/
def storeTornUptoRow : OpenClaim := { program := "ytgcpclbkjplipaa", sum := "ced16ba3991cde190a26e0151d758c4d0f96f0efe3b1937888733807bb731043", func := "roadstead/roadkeep5.StoreTorn", spec := "storeTorn", unfollowed := true, recurses := true, apart := false, narrowed := true }
def StoreTornUptoSaid : Prop := storeTornUptoRow.holds Try.pinned (OpenSpec.upto storeTornSpec)

/-- 'roadkeep5.StoreKeeps', WHERE WHAT IT READS IS OF BULK AT MOST 1048576: true; the input reads as it did. -/
def storeKeepsUptoRow : OpenClaim := { program := "ytgcpclbkjplipaa", sum := "ced16ba3991cde190a26e0151d758c4d0f96f0efe3b1937888733807bb731043", func := "roadstead/roadkeep5.StoreKeeps", spec := "storeKeeps", unfollowed := true, recurses := true, apart := false, narrowed := true }
def StoreKeepsUptoSaid : Prop := storeKeepsUptoRow.holds Try.pinned (OpenSpec.upto storeKeepsSpec)

end Rows
end Go.Proofs.Ytgcpclbkjplipaa
