/- lives answers true. -/
import Derived.Test.YtldgeclcbikmbaaHeapX
set_option linter.unusedVariables false
set_option linter.unusedSimpArgs false
namespace Go.Proofs.Ytldgeclcbikmbaa
open Go.RowKit Go.Sort Go.Proofs.Ytldgeclcbikmbaa.Flt

theorem big2 (w : World) : Fr (fun _ => False) w (w.alloc (.cells #[.int .i64 1, .int .i64 0] 3)) := Fr.alloc _ _

set_option maxHeartbeats 1600000 in
theorem lives_ok (w : World) : Calls Try.prog 7 #[] w fun e w' => e = .returned (.bool true) ∧ Below w.heap.size w w' := by
  have hnew : Calls Try.prog 8 #[.int .i64 2] w (NewPost 2 w) := new_ok 2 w (by decide)
  go_enter Try.func7, Try.ntmps7
  go_wp2_with (go_at_call 8; refine hnew.mono ?_; rintro e w1 ⟨H, rfl, h1, k1⟩)
  refine (push_ok h1 0).mono ?_
  rintro e w2 ⟨rfl, h2, k2⟩
  generalize pushE (newS 2) 0 = r1
  go_wp2_with fail
  refine (push_ok h2 1).mono ?_
  rintro e w3 ⟨rfl, h3, k3⟩
  generalize pushE (pushX (newS 2) 0) 1 = r2
  go_wp2_with fail
  refine (bump_ok h3 1).mono ?_
  rintro e w4 ⟨rfl, h4, k4⟩
  generalize (if isIn (pushX (pushX (newS 2) 0) 1) 1 then (0 : Int) else 61) = r3
  go_wp2_with fail
  refine (order_ok h4).mono ?_
  rintro e w5 ⟨v, rfl, o1, o2⟩
  have hs3 : bumpX (pushX (pushX (newS 2) 0) 1) 1 = s3 := rfl
  rw [hs3] at o1
  have o3 := rdI_own o1
  rw [s3_order] at o3
  have hb : Below w.heap.size w w5 := (((k1.below (Nat.le_refl _) (fun _ e => e.elim)).trans k2).trans k3).trans (k4.trans (o2.below h4.size (fun _ e => e.elim)))
  have HB := Lib.hid hb
  obtain ⟨ao, cap, ev, hv⟩ := o3
  have o4 : RdI w5 v [1, 0] := ⟨ao, cap, ev, hv⟩
  have o5 := o4.keep (big2 w5) (fun _ _ e => e)
  have hn : Blk (w5.alloc (.cells #[.int .i64 1, .int .i64 0] 3)) w5.heap.size [.int .i64 1, .int .i64 0] 3 := Blk.new' rfl
  have o6 : RdI (w5.alloc (.cells #[.int .i64 1, .int .i64 0] 3)) (.slice (some ⟨w5.heap.size, 0, none⟩) 2 2) [1, 0] := ⟨_, 2, rfl, fun j hj => ⟨_, rfl, hn.cell (by
    match j, hj with
    | 0, _ => rfl
    | 1, _ => rfl)⟩⟩
  have hi := ints_same o5 o6 (by decide)
  rw [ev] at hi ⊢
  clear h1 h2 h3 h4 k1 k2 k3 k4 o1 o2 hv ev o4 o5 hn o6 hs3 hb
  go_wp2_with (go_at_call 14; refine hi.mono ?_; rintro e w6 ⟨rfl, k6⟩)
  go_ret
  exact ⟨rfl, (HB.out.alloc HB.out.size _).trans (k6.below (by have := HB.out.size; simp; omega) (fun _ e => e.elim))⟩
end Go.Proofs.Ytldgeclcbikmbaa
