/- The laws' module in memory: its bodies, functions, the actor; and the entries of its page. -/
import Derived.Test.YtaealapgebbnlaaDoorMem
import Derived.Test.YtaealapgebbnlaaDoorRest
set_option linter.unusedVariables false
namespace Go.Md
open Go.Mem
abbrev Bs := List UInt8
/-- a body: the maker K (none), or a call of one name with a call of another one -/
abbrev Bd := Option (UInt8 × UInt8)
abbrev bst (l : Bs) : Value := .string ⟨l.toArray⟩
def leafC (y : UInt8) : List Value := [.int .i64 9, .int .i64 0, bst [y], .slice none 0 0, .slice none 0 0, .slice none 0 0, .slice none 0 0, .int .i64 0]
def BdCells (w : World) (D : Nat → Prop) (cs : List Value) (b : Bd) : Prop :=
  (b = none ∧ cs = [.int .i64 12, .int .i64 0, bst [75], .slice none 0 0, .slice none 0 0, .slice none 0 0, .slice none 0 0, .int .i64 0]) ∨
    ∃ x y A c, b = some (x, y) ∧ cs = [.int .i64 9, .int .i64 0, bst [x], .slice none 0 0, .slice none 0 0, .slice A 1 c, .slice none 0 0, .int .i64 0] ∧ 1 ≤ c ∧ c ≤ maxLen ∧ Reads w D 8 A 1 (leafC y)
theorem BdCells.stable : Stable 8 BdCells where
  keep := fun h hk => by
    rcases h with h | ⟨x, y, A, c, h1, h2, h3, h4, h5⟩
    · exact .inl h
    · exact .inr ⟨x, y, A, c, h1, h2, h3, h4, h5.keep hk⟩
  imp := fun h hk => by
    rcases h with h | ⟨x, y, A, c, h1, h2, h3, h4, h5⟩
    · exact .inl h
    · exact .inr ⟨x, y, A, c, h1, h2, h3, h4, h5.imp (by omega) hk⟩
  len := fun h => by
    rcases h with ⟨_, rfl⟩ | ⟨x, y, A, c, _, rfl, _⟩ <;> rfl
  one := fun h u hu => by
    rcases h with ⟨_, rfl⟩ | ⟨x, y, A, c, _, rfl, _⟩ <;>
      (simp at hu; rcases hu with rfl | rfl | rfl | rfl | rfl | rfl | rfl | rfl <;> rfl)
/-- a function: name and body -/
abbrev Fn := Bs × Bd
def FnCells (w : World) (D : Nat → Prop) (cs : List Value) (f : Fn) : Prop :=
  ∃ bs, cs = [bst f.1, .slice none 0 0, .slice none 0 0, .slice none 0 0, .int .i64 1, bst [], .slice none 0 0] ++ bs ∧ BdCells w D bs f.2
theorem FnCells.stable : Stable 15 FnCells where
  keep := fun ⟨bs, h1, h2⟩ hk => ⟨bs, h1, BdCells.stable.keep h2 hk⟩
  imp := fun ⟨bs, h1, h2⟩ hk => ⟨bs, h1, BdCells.stable.imp h2 hk⟩
  len := fun ⟨bs, h1, h2⟩ => by rw [h1, List.length_append, BdCells.stable.len h2]; rfl
  one := fun ⟨bs, h1, h2⟩ u hu => by
    rw [h1] at hu
    rcases List.mem_append.1 hu with hu | hu
    · simp at hu
      rcases hu with rfl | rfl | rfl | rfl | rfl | rfl | rfl <;> rfl
    · exact BdCells.stable.one h2 u hu
/-- the actor Z with a body -/
def AcCells (w : World) (D : Nat → Prop) (cs : List Value) (b : Bd) : Prop :=
  ∃ bs, cs = [bst [90], .slice none 0 0, .slice none 0 0, .int .i64 1, bst [], .slice none 0 0] ++ bs ∧ BdCells w D bs b
theorem AcCells.stable : Stable 14 AcCells where
  keep := fun ⟨bs, h1, h2⟩ hk => ⟨bs, h1, BdCells.stable.keep h2 hk⟩
  imp := fun ⟨bs, h1, h2⟩ hk => ⟨bs, h1, BdCells.stable.imp h2 hk⟩
  len := fun ⟨bs, h1, h2⟩ => by rw [h1, List.length_append, BdCells.stable.len h2]; rfl
  one := fun ⟨bs, h1, h2⟩ u hu => by
    rw [h1] at hu
    rcases List.mem_append.1 hu with hu | hu
    · simp at hu
      rcases hu with rfl | rfl | rfl | rfl | rfl | rfl <;> rfl
    · exact BdCells.stable.one h2 u hu
def nmI (i : Nat) : Bs := [UInt8.ofNat (97 + i)]
/-- the module's functions are a .. h -/
def Eight (fs : List Fn) : Prop := fs.length = 8 ∧ ∀ i (h : i < fs.length), (fs[i]).1 = nmI i
/-- the module in memory -/
structure ModAt (w : World) (D : Nat → Prop) (cs : List Value) (fs : List Fn) (z : Bd) : Prop where
  ex : ∃ AD cD AM cM AF cF AZ cZ vss vs, cs = [bst [109], .int .i64 1, .slice none 0 0, .slice AD 1 cD, .slice none 0 0, .slice none 0 0, .slice AF 8 cF, .slice AZ 1 cZ] ∧
    (1 ≤ cD ∧ cD ≤ maxLen) ∧ (1 ≤ cM ∧ cM ≤ maxLen) ∧ (8 ≤ cF ∧ cF ≤ maxLen) ∧ (1 ≤ cZ ∧ cZ ≤ maxLen) ∧
    Reads w D 3 AD 1 [bst [68], .slice none 0 0, .slice AM 1 cM] ∧ Reads w D 2 AM 1 [bst [75], .slice none 0 0] ∧
    Reads w D 15 AF 8 (List.flatten vss) ∧ All2 (FnCells w D) vss fs ∧ Reads w D 14 AZ 1 vs ∧ AcCells w D vs z
  ei : Eight fs
theorem ModAt.keep {w w' : World} {D : Nat → Prop} {cs : List Value} {fs : List Fn} {z : Bd} (h : ModAt w D cs fs z) (hk : Same D w w') : ModAt w' D cs fs z := by
  obtain ⟨⟨AD, cD, AM, cM, AF, cF, AZ, cZ, vss, vs, e, h1, h2, h3, h4, r1, r2, r3, a3, r4, a4⟩, he⟩ := h
  exact ⟨⟨AD, cD, AM, cM, AF, cF, AZ, cZ, vss, vs, e, h1, h2, h3, h4, r1.keep hk, r2.keep hk, r3.keep hk, a3.imp fun _ _ h => FnCells.stable.keep h hk, r4.keep hk, AcCells.stable.keep a4 hk⟩, he⟩
theorem ModAt.imp {w : World} {D D' : Nat → Prop} {cs : List Value} {fs : List Fn} {z : Bd} (h : ModAt w D cs fs z) (hk : ∀ b, D b → b < w.heap.size → D' b) : ModAt w D' cs fs z := by
  obtain ⟨⟨AD, cD, AM, cM, AF, cF, AZ, cZ, vss, vs, e, h1, h2, h3, h4, r1, r2, r3, a3, r4, a4⟩, he⟩ := h
  exact ⟨⟨AD, cD, AM, cM, AF, cF, AZ, cZ, vss, vs, e, h1, h2, h3, h4, r1.imp (by omega) hk, r2.imp (by omega) hk, r3.imp (by omega) hk, a3.imp fun _ _ h => FnCells.stable.imp h hk, r4.imp (by omega) hk, AcCells.stable.imp a4 hk⟩, he⟩
/-- an entry of the page -/
structure En where
  ch : UInt8
  sort : Fin 6
  in_ : Bs
  line : Bs
instance : Inhabited En := ⟨⟨0, 0, [], []⟩⟩
def encE (e : En) : List Value := [bst [e.ch], .int .i64 (e.sort.val : Nat), bst e.in_, bst e.line]
def ensC (l : List En) : List Value := (l.map encE).flatten
/-- the line of a function -/
def funL (n : Bs) : Bs := [102, 117, 110, 32] ++ n ++ [40, 41, 58, 32, 105, 110, 116]
def enK : En := ⟨75, 2, [68], [75, 32, 111, 102, 32, 68]⟩
def enD : En := ⟨68, 1, [], [100, 97, 116, 97, 32, 68, 32, 61, 32, 75]⟩
def enZ : En := ⟨90, 5, [], [97, 99, 116, 111, 114, 32, 90, 40, 41, 58, 32, 105, 110, 116]⟩
def enF (i : Nat) : En := ⟨UInt8.ofNat (97 + i), 4, [], funL (nmI i)⟩
/-- as they are made; and sorted -/
def rawE : List En := enK :: enD :: ((List.range 8).map enF ++ [enZ])
def allE : List En := enD :: enK :: enZ :: (List.range 8).map enF
theorem allE_len : allE.length = 11 := rfl
theorem rawE_len : rawE.length = 11 := rfl
/-- how the page compares entries -/
def cmpU (a b : UInt8) : Int := if a < b then -1 else if b < a then 1 else 0
def cfE (x y : En) : Int := if cmpU x.ch y.ch = 0 then (x.sort.val : Int) - (y.sort.val : Int) else cmpU x.ch y.ch
end Go.Md
