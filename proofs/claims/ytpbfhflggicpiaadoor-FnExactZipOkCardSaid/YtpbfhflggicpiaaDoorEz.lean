/- Files of an archive: their cells; names apart from each other, as each program looks for it. Nothing of the program is walked here. -/
import Derived.Test.YtpbfhflggicpiaaDoorRow
import Derived.Lib.Strings
import Derived.Lib.Hide
namespace Go.Proofs.YtpbfhflggicpiaaDoor.Nm
open Go.RowKit Go.Proofs.YtpbfhflggicpiaaDoor.Mem
set_option linter.unusedVariables false
/-- A file: its name, its stamp's six numbers, its text. -/
structure Fi where
  nm : ByteArray
  y : Int
  m : Int
  d : Int
  h : Int
  mi : Int
  s : Int
  tx : ByteArray
def fcell (f : Fi) : List Value := [.string f.nm, .int .i64 f.y, .int .i64 f.m, .int .i64 f.d, .int .i64 f.h, .int .i64 f.mi, .int .i64 f.s, .string f.tx]
def fcells (L : List Fi) : List Value := L.flatMap fcell
theorem fcells_cons (f : Fi) (L : List Fi) : fcells (f :: L) = fcell f ++ fcells L := rfl
theorem fcells_append (L M : List Fi) : fcells (L ++ M) = fcells L ++ fcells M := by unfold fcells; rw [List.flatMap_append]
theorem fcells_length (L : List Fi) : (fcells L).length = L.length * 8 := by
  induction L with
  | nil => rfl
  | cons f L ih => rw [fcells_cons, List.length_append, ih, List.length_cons]; show 8 + _ = _; omega
theorem fcells_get : ∀ (L : List Fi) {i : Nat} (h : i < L.length) {j : Nat} {u : Value}, (fcell L[i])[j]? = some u → (fcells L)[i * 8 + j]? = some u
  | f :: L, 0, _, j, u, hu => by
    rw [fcells_cons, List.getElem?_append_left]
    · simpa using hu
    · have := (List.getElem?_eq_some_iff.1 hu).1
      simpa using this
  | f :: L, i + 1, h, j, u, hu => by
    have h8 : (fcell f).length = 8 := rfl
    rw [fcells_cons, List.getElem?_append_right (by rw [h8]; omega), h8, show (i + 1) * 8 + j - 8 = i * 8 + j from by omega]
    exact fcells_get L (by simpa using h) (by simpa using hu)
/-- The cells of files lie in memory, from a place of a block on. -/
structure FiAt (w : World) (g o : Nat) (L : List Fi) : Prop where mk :: (out : ∀ k u, (fcells L)[k]? = some u → w.cell? ⟨g, o + k, none⟩ = some u)
theorem FiAt.on {w w' : World} {g o : Nat} {L : List Fi} (h : FiAt w g o L) (O : On w w') : FiAt w' g o L :=
  ⟨fun k u hu => (O.cell (World.block_lt_of_cell? w _ (h.out k u hu))).trans (h.out k u hu)⟩
theorem FiAt.cells {w : World} {g o : Nat} {L : List Fi} (H : FiAt w g o L) {i : Nat} (hi : i < L.length) :
    w.cell? ⟨g, o + i * 8, none⟩ = some (.string L[i].nm) ∧ w.cell? ⟨g, o + i * 8 + 1, none⟩ = some (.int .i64 L[i].y) ∧ w.cell? ⟨g, o + i * 8 + 2, none⟩ = some (.int .i64 L[i].m) ∧ w.cell? ⟨g, o + i * 8 + 3, none⟩ = some (.int .i64 L[i].d) ∧
    w.cell? ⟨g, o + i * 8 + 4, none⟩ = some (.int .i64 L[i].h) ∧ w.cell? ⟨g, o + i * 8 + 5, none⟩ = some (.int .i64 L[i].mi) ∧ w.cell? ⟨g, o + i * 8 + 6, none⟩ = some (.int .i64 L[i].s) ∧ w.cell? ⟨g, o + i * 8 + 7, none⟩ = some (.string L[i].tx) := by
  have c := fun j u (hu : (fcell L[i])[j]? = some u) => H.out _ _ (fcells_get L hi hu)
  refine ⟨?_, ?_, ?_, ?_, ?_, ?_, ?_, ?_⟩
  · simpa using c 0 _ rfl
  · simpa [Nat.add_assoc] using c 1 _ rfl
  · simpa [Nat.add_assoc] using c 2 _ rfl
  · simpa [Nat.add_assoc] using c 3 _ rfl
  · simpa [Nat.add_assoc] using c 4 _ rfl
  · simpa [Nat.add_assoc] using c 5 _ rfl
  · simpa [Nat.add_assoc] using c 6 _ rfl
  · simpa [Nat.add_assoc] using c 7 _ rfl
theorem FiAt.row {w : World} {g t : Nat} {L : List Fi} (h : Row w g t (fcells L)) : FiAt w g 0 L := ⟨fun k u hu => by rw [Nat.zero_add]; exact h.cell hu⟩
/-- The name of a place. -/
def nmAt (L : List Fi) (i : Nat) : List UInt8 := match L[i]? with | some f => f.nm.data.toList | none => []
theorem nmAt_lt {L : List Fi} {i : Nat} (h : i < L.length) : nmAt L i = L[i].nm.data.toList := by unfold nmAt; rw [List.getElem?_eq_getElem h]
/-- A name within another one, as in a dir. -/
def under (a b : List UInt8) : Bool := Lib.hasPrefix b (a ++ [47])
theorem under_not_self (a : List UInt8) : under a a = false := by
  unfold under Lib.hasPrefix
  cases h : (a ++ [47]).isPrefixOf a with
  | false => rfl
  | true =>
    have := (List.isPrefixOf_iff_prefix.1 h).length_le
    rw [List.length_append, List.length_singleton] at this; omega
/-- All names are apart. -/
def Apart (L : List Fi) : Prop := ∀ i j, i < L.length → j < L.length → i ≠ j → nmAt L i ≠ nmAt L j ∧ under (nmAt L i) (nmAt L j) = false
/-- As the program looks for it: up to k. -/
def ApartTo (L : List Fi) (k : Nat) : Prop := ∀ i j, i < k → j < i → nmAt L i ≠ nmAt L j ∧ under (nmAt L j) (nmAt L i) = false ∧ under (nmAt L i) (nmAt L j) = false
theorem apart_to {L : List Fi} : ApartTo L L.length ↔ Apart L := by
  constructor
  · intro h i j hi hj hne
    rcases Nat.lt_or_gt_of_ne hne with hlt | hgt
    · obtain ⟨a, b, c⟩ := h j i hj hlt
      exact ⟨fun e => a e.symm, b⟩
    · obtain ⟨a, b, c⟩ := h i j hi hgt
      exact ⟨a, c⟩
  · intro h i j hi hj
    have h1 := h i j hi (by omega) (by omega)
    have h2 := h j i (by omega) hi (by omega)
    exact ⟨h1.1, h2.2, h1.2⟩
/-- As the specification looks for it: at place i. -/
def ApartAt (L : List Fi) (i : Nat) : Prop := (∀ j, j < i → nmAt L j ≠ nmAt L i) ∧ ∀ k, k < L.length → under (nmAt L i) (nmAt L k) = false
theorem apart_at {L : List Fi} : (∀ i, i < L.length → ApartAt L i) ↔ Apart L := by
  constructor
  · intro h i j hi hj hne
    refine ⟨?_, (h i hi).2 j hj⟩
    rcases Nat.lt_or_gt_of_ne hne with hlt | hgt
    · exact (h j hj).1 i hlt
    · exact fun e => (h i hi).1 j hgt e.symm
  · intro h i hi
    refine ⟨fun j hj => (h j i (by omega) hi (by omega)).1, fun k hk => ?_⟩
    by_cases e : i = k
    · subst e; exact under_not_self _
    · exact (h i k hi hk e).2
end Go.Proofs.YtpbfhflggicpiaaDoor.Nm
