/- The first walks of the heap: put, ahead, moved. -/
import Derived.Test.YtgdnehejeoiicaaProg
import Derived.Test.YtgdnehejeoiicaaMem
import Derived.WalkKit
import Derived.WalkSpells
import Derived.WalkLawsBesides
import Derived.Deep.QuietTactic
import Derived.BigQuiet
namespace Go.Proofs.Ytgdnehejeoiicaa
open Go.RowKit

/-- Is a variable a of score x ahead of b of score y? -/
def fahd (x y : Nat) (a b : Nat) : Bool := if (FloatKind.f64.format.order x y != some Ordering.eq) = true then (FloatKind.f64.format.order x y == some Ordering.gt) else decide (a < b)

set_option maxHeartbeats 400000 in
theorem ahead_any (H bs : Nat) (x y : Nat) (n m : Nat) (a b : Nat) (w : World) (ha : a < n) (hb : b < n) (_hn : n ≤ 1048576)
    (h1 : w.cell? ⟨H, 3, none⟩ = some (.slice (some ⟨bs, 0, none⟩) n m)) (hca : w.cell? ⟨bs, a, none⟩ = some (.float .f64 x)) (hcb : w.cell? ⟨bs, b, none⟩ = some (.float .f64 y)) :
    Calls Try.prog 64 #[.pointer (some ⟨H, 0, none⟩), .int .i64 a, .int .i64 b] w fun e w' => e = .returned (.bool (fahd x y a b)) ∧ ∃ k, w' = w.drewN k := by
  have g1 : (0 : Int) ≤ (a : Int) := by omega
  have g2 : (a : Int) < (n : Int) := by omega
  have g3 : (0 : Int) ≤ (b : Int) := by omega
  have g4 : (b : Int) < (n : Int) := by omega
  by_cases hc : (FloatKind.f64.format.order x y != some Ordering.eq) = true
  · go_enter Try.func64, Try.ntmps64
    go_wp2
    go_quiet (fail)
    go_wp2
    go_quiet (fail)
    go_wp2
    go_ret
    exact ⟨by simp [fahd, hc], _, (World.drewN_drewN ..)⟩
  · have hc' : (FloatKind.f64.format.order x y != some Ordering.eq) = false := by simpa using hc
    go_enter Try.func64, Try.ntmps64
    go_wp2
    go_quiet (fail)
    go_wp2
    go_ret
    exact ⟨by simp [fahd, hc], _, rfl⟩

set_option maxHeartbeats 400000 in
theorem moved_any (V H bp : Nat) (n m : Nat) (v : Nat) (at_ : Int) (w : World) (u : Value) (hv : v < n) (_hn : n ≤ 1048576)
    (h0 : w.cell? ⟨V, 0, none⟩ = some (.pointer (some ⟨H, 0, none⟩))) (h1 : w.cell? ⟨H, 4, none⟩ = some (.slice (some ⟨bp, 0, none⟩) n m)) (hc : w.cell? ⟨bp, v, none⟩ = some u) (hf : w.frozen? ⟨bp, v, none⟩ = false) :
    Calls Try.prog 65 #[.int .i64 v, .int .i64 at_, .pointer (some ⟨V, 0, none⟩)] w fun e w' => e = .returned (.tuple #[]) ∧ w' = w.setCell ⟨bp, v, none⟩ (.int .i64 at_) := by
  have g1 : (0 : Int) ≤ (v : Int) := by omega
  have g2 : (v : Int) < (n : Int) := by omega
  go_enter Try.func65, Try.ntmps65
  go_wp2
  go_end0
  exact ⟨rfl, rfl⟩

set_option maxHeartbeats 400000 in
theorem put_any (V H g bp : Nat) (n m L cap : Nat) (v : Nat) (i : Nat) (w : World) (u u' : Value) (hv : v < n) (hn : n ≤ 1048576) (hi : i < L) (_hL : L ≤ 1048576)
    (h0 : w.cell? ⟨V, 0, none⟩ = some (.pointer (some ⟨H, 0, none⟩))) (h1 : w.cell? ⟨H, 4, none⟩ = some (.slice (some ⟨bp, 0, none⟩) n m)) (hc : w.cell? ⟨bp, v, none⟩ = some u) (hf : w.frozen? ⟨bp, v, none⟩ = false)
    (hl : w.cell? ⟨H, 0, none⟩ = some (.slice (some ⟨g, 0, none⟩) L cap)) (h2 : w.cell? ⟨H, 2, none⟩ = some (.func (.func 65) #[] #[.pointer (some ⟨V, 0, none⟩)]))
    (hci : w.cell? ⟨g, i, none⟩ = some u') (hfi : w.frozen? ⟨g, i, none⟩ = false) (n1 : g ≠ V) (n2 : g ≠ H) (n3 : g ≠ bp) :
    Calls Try.prog 67 #[.pointer (some ⟨H, 0, none⟩), .int .i64 v, .int .i64 i] w fun e w' => e = .returned (.tuple #[]) ∧ w' = (w.setCell ⟨g, i, none⟩ (.int .i64 v)).setCell ⟨bp, v, none⟩ (.int .i64 i) := by
  have g1 : (0 : Int) ≤ (i : Int) := by omega
  have g2 : (i : Int) < (L : Int) := by omega
  have k := Fr.set w ⟨g, i, none⟩ (.int .i64 v)
  have c2 := k.cell (p := ⟨H, 2, none⟩) (by simpa using fun e => n2 e.symm) h2
  have c0 := k.cell (p := ⟨V, 0, none⟩) (by simpa using fun e => n1 e.symm) h0
  have c1 := k.cell (p := ⟨H, 4, none⟩) (by simpa using fun e => n2 e.symm) h1
  have c3 := k.cell (p := ⟨bp, v, none⟩) (by simpa using fun e => n3 e.symm) hc
  have c4 : (w.setCell ⟨g, i, none⟩ (.int .i64 v)).frozen? ⟨bp, v, none⟩ = false := by
    rw [World.frozen?_of_block (w := w) (k.block bp (World.block_lt_of_cell? w _ hc) (by simpa using fun e => n3 e.symm))]; exact hf
  have hm := moved_any V H bp n m v i _ u hv hn c0 c1 c3 c4
  go_enter Try.func67, Try.ntmps67
  go_wp2_with (go_at_call 65; refine hm.mono ?_; rintro e w' ⟨rfl, rfl⟩)
  go_end0
  exact ⟨rfl, rfl⟩
end Go.Proofs.Ytgdnehejeoiicaa
