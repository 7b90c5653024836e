/- A script that came in, read as acts in memory. -/
import Derived.Test.YtldgeclcbikmbaaHPlay
import Derived.WalkKit
import Derived.ProofKit
import Derived.OpenShut
import Derived.Deep.Slices
import Derived.Deep.Strs
set_option linter.unusedVariables false
namespace Go.Proofs.Ytldgeclcbikmbaa
open Go.ChangeShapes Go.WideShapes Go.ChangeAt Go.RowKit Go.Deep

theorem und_acts : Try.prog.underlying 36 = some (.slice 56) := by kernel_rfl

theorem acts_of {H : Type} {enc : TypeId × Value → H} {w : World} {base : Nat} {spare : Nat → Bool} {held : Bool} {fuel : Nat} {ao : Option Addr} {m cap : Nat} {x : DataW H × List MemPlace}
    (h : DataW.trod enc Try.prog w base spare held fuel 36 [.slice ao m cap] = some x) : ActsAt w (.slice ao m cap) m := by
  rcases open_slice und_acts h with ⟨hcs, _⟩ | ⟨a, len, cap', mm, n, D, Pl, hcs, hb, hl, hm, hmm, hx, hel⟩
  · simp at hcs
    obtain ⟨rfl, rfl, rfl⟩ := hcs
    exact ⟨none, 0, rfl, by decide, fun i hi => absurd hi (by omega)⟩
  · simp at hcs
    obtain ⟨rfl, rfl, rfl⟩ := hcs
    refine ⟨some a, cap, rfl, by unfold maxLen at hm; omega, fun i hi => ?_⟩
    have hlm : m ≤ mm := by rw [hmm]; split <;> omega
    have c3 : Try.prog.cellsOf 56 = 3 := by kernel_rfl
    have c1 : Try.prog.cellsOf 3 = 1 := by kernel_rfl
    have one : ∀ j, j < mm → ∃ a0 b0 c0 : Int, w.cell? (a.add (j * 3)) = some (.int .i64 a0) ∧ w.cell? (a.add (j * 3 + 1)) = some (.int .i64 b0) ∧ w.cell? (a.add (j * 3 + 2)) = some (.int .i64 c0) := by
      intro j hj
      obtain ⟨cs', h1, h2⟩ := hel j hj
      rw [c3] at h1
      obtain ⟨_, hlen, hcell⟩ := World.cells?_some h1
      obtain ⟨y0, y1, y2, k, _, _, g0, g1, g2⟩ := trod_struct3 Try.underlying56 h2
      match cs', hlen with
      | [v0, v1, v2], _ =>
        simp [c1] at g0 g1 g2
        obtain ⟨n0, e0, _, _⟩ := DataW.trod_int Try.underlying3 g0
        obtain ⟨n1, e1, _, _⟩ := DataW.trod_int Try.underlying3 g1
        obtain ⟨n2, e2, _, _⟩ := DataW.trod_int Try.underlying3 g2
        simp at e0 e1 e2
        have k0 := hcell 0 (by omega)
        have k1 := hcell 1 (by omega)
        have k2 := hcell 2 (by omega)
        rw [add_add] at k0 k1 k2
        exact ⟨n0, n1, n2, by simpa [e0] using k0, by simpa [e1] using k1, by simpa [e2] using k2⟩
    obtain ⟨g, off, spot⟩ := a
    have hspot : spot = none := by
      obtain ⟨a0, _, _, e0, _⟩ := one 0 (by omega)
      simpa [Addr.add] using World.cell?_spot e0
    subst hspot
    obtain ⟨a0, b0, c0, e0, e1, e2⟩ := one i (by omega)
    rw [Go.WideShapes.add_plain] at e0 e1 e2
    exact ⟨g, off, a0, b0, c0, rfl, e0, e1, e2⟩
end Go.Proofs.Ytldgeclcbikmbaa
