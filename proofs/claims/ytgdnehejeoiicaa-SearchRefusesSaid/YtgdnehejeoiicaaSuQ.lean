/- For every number of atoms and every clause SearchRefuses answers true and changes nothing that was there: no condition. -/
import Derived.Test.YtgdnehejeoiicaaRows
import Derived.Test.YtgdnehejeoiicaaSuP
import Derived.Test.YtgdnehejeoiicaaWSized
import Derived.WalkKit
import Derived.ProofKit
import Derived.OpenShut
import Derived.ShutString
import Derived.ChangeOld
import Derived.Below
import Derived.SizedLaws
namespace Go.Proofs.Ytgdnehejeoiicaa.searchRefuses
open Go.ChangeShapes Go.WideShapes Go.ChangeAt Go.RowKit
set_option linter.unusedVariables false

theorem own : ownKnob Try.prog.godebug = none := by kernel_rfl
theorem laidOut : laidOutB Try.prog = true := by kernel_rfl

theorem rdC_of {H : Type} {enc : TypeId × Value → H} {w : World} {base : Nat} {spare : Nat → Bool} {held : Bool} {fuel : Nat} {ao : Option Addr} {m cap : Nat} {x : DataW H × List MemPlace}
    (h : DataW.trod enc Try.prog w base spare held fuel 23 [.slice ao m cap] = some x) (hb : m * 8 ≤ 140737488351232) : ∃ xs, xs.length = m ∧ RdC w (.slice ao m cap) xs := by
  rcases open_ints und_clause Try.underlying3 (by kernel_rfl) h with ⟨hcs, _⟩ | ⟨a, l, c, zs, hcs, _, hl, hm, hz, _, hcell, _⟩
  · simp at hcs
    obtain ⟨rfl, rfl, rfl⟩ := hcs
    exact ⟨[], rfl, none, 0, rfl, by simp, fun _ => ⟨rfl, rfl⟩, fun a ha => by cases ha⟩
  · simp at hcs
    obtain ⟨rfl, rfl, rfl⟩ := hcs
    have hmz : m ≤ zs.length := by rw [hz]; split <;> omega
    have hlen : (zs.take m).length = m := by simp; omega
    refine ⟨zs.take m, hlen, some a, cap, by rw [hlen], by rw [hlen]; exact hb, (fun e => by cases e), fun a' ha => ?_⟩
    cases ha
    have hsp : 0 < m → a.spot = none := fun h0 => by
      have := hcell 0 (by omega)
      simpa [Addr.add] using World.cell?_spot this
    refine ⟨fun h0 => hsp (by rw [hlen] at h0; exact h0), fun j hj => ?_⟩
    rw [hlen] at hj
    have h1 := hcell j (by omega)
    have h2 := hsp (by omega)
    obtain ⟨g, off, spot⟩ := a
    simp only at h2
    subst h2
    rw [Go.WideShapes.add_plain] at h1
    have e : (zs.take m).getD j 0 = zs.getD j 0 := by rw [List.getD_eq_getElem?_getD, List.getD_eq_getElem?_getD, List.getElem?_take_of_lt hj]
    rw [e]
    exact h1

set_option maxRecDepth 100000 in
theorem lifted (os : Os) (started : os.Started) (H : Type) (enc : TypeId × Value → H) :
    ReturnsInHanded {} Try.checked os 3 .any (Rows.searchRefusesSpec.pre6 enc Try.prog Try.f3 Rows.searchRefusesRow.domain false) (Rows.searchRefusesSpec.post enc Try.prog Try.f3 false true false false) := by
  refine returnsInHanded_of_change_sized (C := Try.checked) own started (by kernel_rfl) Try.func3
    (ChangeSpec.witness6 (enc := enc) (C := Try.checked) false ⟨#[], #[.int .i64 0, .slice none 0 0], []⟩ 8 (by kernel_rfl) (by kernel_rfl) (by kernel_rfl) (by kernel_rfl)) ?_
  intro W base args ds gs before hval0 hW hcnd hsz0 _
  have hsz : (DataW.weightsEach Try.prog (Try.f3.params.toList ++ Rows.searchRefusesSpec.plain.varTypes Try.prog) (ds ++ gs)).all (· ≤ reachBytes) = true := hsz0
  have hval : ∀ (j : Nat) t v, Try.f3.params[j]? = some t → args[j]? = some v → Value.okWide Try.prog W .any base t v := hval0
  have hW' := hW
  obtain ⟨p, q, hA0, hV, rfl, hfz, hnd⟩ := hW
  have hA : DataW.TrodAll enc Try.prog W 0 (fun _ => true) true Try.f3.params.toList args.toList ds p := hA0
  rw [Try.params3] at hA hval hsz
  obtain ⟨v0, vs0, d0, ds0, p0, q0, hargs, rfl, rfl, h0, r0⟩ := trodAll_cons hA
  obtain ⟨v1, vs1, d1, ds1, p1, q1, rfl, rfl, rfl, h1, r1⟩ := trodAll_cons r0
  obtain ⟨rfl, rfl, rfl⟩ := trodAll_nil r1
  obtain rfl : args = #[v0, v1] := by cases args; simp_all
  obtain ⟨rfl, rfl⟩ := trodVars_none hV
  obtain ⟨a0, rfl, rfl, rfl, w0⟩ := open_int Try.underlying3 (hval 0 3 v0 rfl rfl) h0
  obtain ⟨a1, len1, cap1, rfl⟩ := okWide_slice und_clause (hval 1 23 v1 rfl rfl)
  have k1 := h1
  have lt1 : ∀ x ∈ p1, x.block < W.heap.size := by obtain ⟨m, hm⟩ := k1; exact DataW.trod_lt m _ _ _ hm
  have y1 : len1 * 8 ≤ 140737488351232 := Go.Proofs.YtgdnehejeoiicaaW.PrintWords.sized_ints hsz (j := 1) (t := 23) rfl rfl und_clause Try.underlying3 (by kernel_rfl) (by kernel_rfl) h1
  obtain ⟨xs, ex, hrd⟩ : ∃ xs, xs.length = len1 ∧ RdC W (.slice a1 len1 cap1) xs := by
    obtain ⟨fuel, hf⟩ := h1
    simp only [Value.cells] at hf
    exact rdC_of hf y1
  clear hA0 hval0 hsz0 hsz
  simp only [List.append_nil] at hW'
  have hcb : ∀ a m k, (Value.slice a1 len1 cap1) = .slice (some a) m k → 0 < m → a.block < W.heap.size := by
    intro a m k e h0
    cases e
    obtain ⟨ao, cap, e1, _, _, hc⟩ := hrd
    simp only [Value.slice.injEq] at e1
    obtain ⟨rfl, e2, rfl⟩ := e1
    have := (hc a rfl).2 0 (by omega)
    exact block_lt_of_cell (a := ⟨a.block, a.off + 0, none⟩) this
  refine (walk_refuses a0 W _ xs hrd hcb).mono fun e W' ⟨he, bel⟩ => ?_
  subst he
  exact ⟨_, rfl, _, _, _, [], _, [], hW', trodAll_mk1 (shut_bool Try.underlying4 _), (trodAll_cons_mk (shut_int Try.underlying3 w0) (trodAll_cons_mk (Below.trod laidOut (by kernel_rfl) (of_decide_eq_true (by kernel_rfl)) k1 bel lt1) trodAll_mk0)), rfl, bel.frame _, fun h => by cases h⟩

theorem over : Rows.searchRefusesRow.holds Try.pinned (OpenSpec.ofChange Rows.searchRefusesSpec) :=
  OpenClaim.holds_of_wide 3 Try.f3 rfl rfl rfl rfl rfl rfl rfl ⟨rfl, rfl, rfl, rfl, rfl⟩ rfl rfl rfl rfl rfl (by kernel_rfl) Try.func3 (by kernel_rfl)
    (of_decide_eq_true (by kernel_rfl)) (by unfold Func.isWrapper; first | (rw [if_pos (by decide +kernel)]; kernel_rfl) | (rw [if_neg (by decide +kernel)]; exact ⟨rfl, rfl⟩))
    (fun os started H enc _ => lifted os started H enc)
end Go.Proofs.Ytgdnehejeoiicaa.searchRefuses
namespace Go.Proofs.Ytgdnehejeoiicaa
theorem searchRefuses_holds : Rows.SearchRefusesSaid := searchRefuses.over
#print axioms searchRefuses_holds
end Go.Proofs.Ytgdnehejeoiicaa
