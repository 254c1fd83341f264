/- heap: Put of a further item: what append does. -/
import Derived.Test.YtlipmhhndhhgdaaTu
set_option linter.unusedSimpArgs false
set_option linter.unusedVariables false
namespace Go.Ab
open Go.Proofs

theorem append_in {σ : St} {a b : Nat} {L : List Item} {G : List Value} {cap : Nat} {x : Item} (hab : σ.get a = some (.cells (cellsL L ++ G) false)) (hg : σ.get b = some (.cells x.cells false)) (hG : L.length * 4 + G.length = cap * 4) (hl : L.length + 1 ≤ cap) (sm : L.length ≤ 1000000) :
    opAppend (cP Try.prog).T σ 37 37 (.slice (some ⟨a, 0, some 6⟩) L.length cap) (.slice (some ⟨b, 0, some 0⟩) 1 1) =
      some (.eff (.slice (some ⟨a, 0, some 6⟩) (L.length + 1) cap) (σ.set a (.cells (cellsL (L ++ [x]) ++ G.drop 4) false)) [a]) := by
  have h37 : (cP Try.prog).T.und 37 = some (.slice 31) := (cx_und 37).trans Try.underlying37
  have h31 : (cP Try.prog).T.info 31 = some Try.t31 := (cx_info 31).trans info31
  have ov := over_end (G := G) (x := x) (L := L) (by omega)
  have l1 : L.length * 4 ≤ (cellsL L ++ G).length := by simp [cellsL_length]; omega
  have l2 : (L.length + 1) * 4 ≤ (cellsL L ++ G).length := by simp [cellsL_length]; omega
  have l3 : ¬ 4294967296 ≤ L.length := by omega
  simp only [Item.cells] at ov hg
  simp only [opAppend, h37, h31, srcLen, Try.t31, srcCells, hg, hab]
  simp only [List.length_append] at l1 l2
  simp [isSeqD, oneCells, plain, plainL, vcells, hl, l3, ov, Item.cells, cellsL_length]
  omega

theorem append_move {σ : St} {a b : Nat} {L : List Item} {G : List Value} {x : Item} (hab : σ.get a = some (.cells (cellsL L ++ G) false)) (hg : σ.get b = some (.cells x.cells false)) (sm : L.length ≤ 1000000) :
    opAppend (cP Try.prog).T σ 37 37 (.slice (some ⟨a, 0, some 6⟩) L.length L.length) (.slice (some ⟨b, 0, some 0⟩) 1 1) =
      some (.eff (.slice (some ⟨σ.next, 0, some 6⟩) (L.length + 1) (L.length + 1)) ((σ.new (.cells (cellsL (L ++ [x])) false)).put a none) [a]) := by
  have h37 : (cP Try.prog).T.und 37 = some (.slice 31) := (cx_und 37).trans Try.underlying37
  have h31 : (cP Try.prog).T.info 31 = some Try.t31 := (cx_info 31).trans info31
  have l3 : ¬ 4294967296 ≤ L.length := by omega
  have tk : (cellsL L ++ G).take (L.length * 4) = cellsL L := by
    rw [List.take_append_of_le_length (by rw [cellsL_length]; omega), List.take_of_length_le (by rw [cellsL_length]; omega)]
  have ap : cellsL (L ++ [x]) = cellsL L ++ x.cells := by rw [cellsL_append]; simp [cellsL]
  rw [ap]
  simp only [Item.cells] at hg ⊢
  simp only [opAppend, h37, h31, srcLen, Try.t31, srcCells, hg, hab]
  simp [isSeqD, oneCells, plain, plainL, vcells, l3, tk, cellsL_length]
  omega
end Go.Ab
