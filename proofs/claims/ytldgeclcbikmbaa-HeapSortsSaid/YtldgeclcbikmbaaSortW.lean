/- The library's sort in the words of blocks: what it asks, what it leaves. -/
import Derived.Test.YtldgeclcbikmbaaMem
import Derived.Sort.Grow
import Derived.Shelf.SlSortCmp.NoneTotal
set_option linter.unusedVariables false
set_option linter.unusedSimpArgs false
namespace Go.Proofs.Ytldgeclcbikmbaa
open Go.RowKit Go.Sort

section
variable {α : Type} [Inhabited α]
theorem holds_blk {enc : α → Value} {w : World} {g : Nat} {l : List α} {more : List Value} {T : TypeId} (h : Blk w g (l.map enc ++ more) T) : Holds enc w g 0 l.toArray := by
  intro j hj
  have hj' : j < l.length := by simpa using hj
  refine ⟨?_, h.free _⟩
  rw [Nat.zero_add]
  refine h.cell ?_
  rw [List.getElem?_append_left (by simpa using hj')]
  simp [hj']
theorem sort_fr (enc : α → Value) (w : World) (g n : Nat) (d : Array α) (os : Array Obj) : Fr (fun b => b = g) w (sortWorld enc w g 0 n d os) := by
  refine ⟨rfl, rfl, rfl, by simp [sortWorld, grow, putRow, mapBlock, Sort.ahead], fun b hb hne => ?_⟩
  unfold sortWorld
  rw [heap_grow_old _ _ (by simpa [putRow, mapBlock, Sort.ahead] using hb)]
  simp [putRow, mapBlock, Sort.ahead, Array.getElem?_modify, Ne.symm hne]
theorem sort_blk {enc : α → Value} {w : World} {g n : Nat} {l ts : List α} {more : List Value} {T : TypeId} (os : Array Obj) (h : Blk w g (l.map enc ++ more) T) (hl : ts.length = l.length) : Blk (sortWorld enc w g 0 n ts.toArray os) g (ts.map enc ++ more) T := by
  have hg := h.lt
  unfold Blk at *
  unfold sortWorld
  rw [heap_grow_old _ _ (by simpa [putRow, mapBlock, Sort.ahead] using hg)]
  simp only [putRow, mapBlock, Sort.ahead, Array.getElem?_modify, h, if_true, Option.map_some, onCells]
  congr 2
  apply Array.ext_getElem?
  intro k
  simp only [putCells, Array.getElem?_mapIdx, List.getElem?_toArray, Nat.zero_le, true_and, Nat.zero_add, Nat.sub_zero, List.size_toArray]
  by_cases hk : k < ts.length
  · rw [List.getElem?_append_left (by simp; omega), List.getElem?_append_left (by simp; omega)]
    have hk' : k < l.length := by omega
    simp [hk, hk']
  · have e1 : (l.map enc ++ more)[k]? = more[k - l.length]? := by rw [List.getElem?_append_right (by simp; omega)]; simp
    have e2 : (ts.map enc ++ more)[k]? = more[k - ts.length]? := by rw [List.getElem?_append_right (by simp; omega)]; simp
    rw [e1, e2, hl]
    cases more[k - l.length]? <;> simp [hl, show ¬ k < l.length by omega]
end
end Go.Proofs.Ytldgeclcbikmbaa
